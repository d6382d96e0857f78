/- The draws' reader: each pick is some number below its bound; the reader's block alone changes. Conditions: the counts of picks are small. -/
import Derived.Test.YtpbfhflggicpiaaDoorChecked
import Derived.Test.YtpbfhflggicpiaaDoorRow
import Derived.Lib.Hide
import Derived.WalkKit
import Derived.WalkSpells
import Derived.Laws.BitsLemmas
import Derived.Deep.QuietTactic
import Derived.BigQuiet
namespace Go.Proofs.YtpbfhflggicpiaaDoor.Draw
open Go.RowKit Go.Proofs.YtpbfhflggicpiaaDoor.Mem
set_option linter.unusedVariables false
set_option linter.unusedSimpArgs false
theorem w64 {x : Int} (h1 : -9223372036854775808 ≤ x) (h2 : x < 9223372036854775808) : wrap64 x = x := by unfold wrap64; omega
theorem wr_i64 (n : Int) (h₀ : 0 ≤ n) (h₁ : n < 2 ^ 63) : IntKind.i64.wrap n = n := by rw [IntKind.wrap_i64]; omega
theorem xor_nn {x y : Int} (x0 : 0 ≤ x) (x1 : x < 9223372036854775808) (y0 : 0 ≤ y) (y1 : y < 9223372036854775808) : 0 ≤ Go.bits .xor .i64 x y := by
  obtain ⟨a, rfl⟩ := Int.eq_ofNat_of_zero_le x0
  obtain ⟨b, rfl⟩ := Int.eq_ofNat_of_zero_le y0
  have ha : a < 2 ^ 63 := by omega
  have hb : b < 2 ^ 63 := by omega
  have hx := Nat.xor_lt_two_pow ha hb
  have ha' : a % 2 ^ IntKind.i64.bits = a := by show a % 2 ^ 64 = a; omega
  have hb' : b % 2 ^ IntKind.i64.bits = b := by show b % 2 ^ 64 = b; omega
  simp only [Go.bits, BitVec.ofInt_natCast, BitVec.toNat_xor, BitVec.toNat_ofNat, ha', hb']
  rw [wr_i64 _ (by omega) (by omega)]
  omega
/-- Everything that was stays, but for block g. -/
structure But (g : Nat) (w w' : World) : Prop where mk :: (out : w.grownBy w' (some g))
theorem But.refl (g : Nat) (w : World) : But g w w := ⟨⟨rfl, rfl, rfl, Nat.le_refl _, fun _ _ _ => rfl⟩⟩
theorem But.trans {g : Nat} {a b c : World} (h : But g a b) (k : But g b c) : But g a c :=
  ⟨⟨k.out.os.trans h.out.os, k.out.tape.trans h.out.tape, k.out.output.trans h.out.output, Nat.le_trans h.out.size k.out.size, fun i hi hg => (k.out.block i (Nat.lt_of_lt_of_le hi h.out.size) hg).trans (h.out.block i hi hg)⟩⟩
theorem But.of {g : Nat} {a b : World} (h : On a b) : But g a b := ⟨⟨h.out.os, h.out.tape, h.out.output, h.out.size, fun i hi _ => h.out.block i hi⟩⟩
theorem But.set (g : Nat) (w : World) (i : Nat) (u : Value) : But g w (w.setCell ⟨g, i, none⟩ u) := by
  refine ⟨⟨rfl, rfl, rfl, ?_, fun j _ hj => Below.heap_setCell w ⟨g, i, none⟩ u j (fun e => hj (by rw [e]))⟩⟩
  simp [World.setCell]
theorem But.on {g : Nat} {a w w' : World} (h : But g w w') (O : On a w) (hg : a.heap.size ≤ g) : On a w' := O.grown h.out (fun _ e => by cases e; exact hg)
theorem But.blk {g k t : Nat} {w w' : World} {cs : Array Value} (h : But g w w') (b : Blk w k t cs) (hk : k ≠ g) : Blk w' k t cs := b.grown h.out (fun e => hk (by cases e; rfl))
theorem But.row {g k t : Nat} {w w' : World} {xs : List Value} (h : But g w w') (b : Row w k t xs) (hk : k ≠ g) : Row w' k t xs := by
  obtain ⟨cs, hb, ht⟩ := b.out
  exact ⟨cs, h.blk hb hk, ht⟩
theorem But.size {g : Nat} {w w' : World} (h : But g w w') : w.heap.size ≤ w'.heap.size := h.out.size
theorem But.cell {g : Nat} {w w' : World} (h : But g w w') {p : Addr} {v : Value} (hp : p.block ≠ g) (hc : w.cell? p = some v) : w'.cell? p = some v := by
  have hlt : p.block < w.heap.size := by
    rcases Nat.lt_or_ge p.block w.heap.size with hl | hl
    · exact hl
    · have h2 : w.heap[p.block]? = none := Array.getElem?_eq_none hl
      simp [World.cell?, h2] at hc
  rw [← hc]
  have hb := h.out.block p.block hlt (fun e => hp (by cases e; rfl))
  unfold World.cell?
  rw [hb]
/-- The reader at block g: at most B picks so far, its bytes lie elsewhere. -/
structure Rd (w : World) (g B : Nat) : Prop where mk :: (out : ∃ (p n cap : Nat) (A : Option Addr), Blk w g 64 #[.slice A n cap, .int .i64 p] ∧ p ≤ B ∧ n ≤ 2000 ∧ n ≤ cap ∧ cap ≤ maxLen ∧
  ∀ i, i < n → ∃ (x : Addr) (b : Nat), A = some x ∧ x.block < g ∧ b ≤ 255 ∧ w.cell? (x.add i) = some (.int .u8 b))
theorem Rd.lt {w : World} {g B : Nat} (h : Rd w g B) : g < w.heap.size := by
  obtain ⟨p, n, cap, A, hb, _⟩ := h.out
  exact hb.lt
theorem Rd.on {w w' : World} {g B : Nat} (h : Rd w g B) (O : On w w') : Rd w' g B := by
  obtain ⟨p, n, cap, A, hb, hp, hn, hc, hm, hcell⟩ := h.out
  refine ⟨p, n, cap, A, O.blk hb, hp, hn, hc, hm, fun i hi => ?_⟩
  obtain ⟨x, b, hx, hg, hb', hcl⟩ := hcell i hi
  have ha : (x.add i).block = x.block := by unfold Addr.add; split <;> rfl
  exact ⟨x, b, hx, hg, hb', (But.of (g := g) O).cell (by rw [ha]; exact Nat.ne_of_lt hg) hcl⟩
/-- Rows made behind the reader may change. -/
theorem Rd.grow {w w' : World} {g B : Nat} (h : Rd w g B) (hgl : g < w.heap.size) (hb : ∀ i, i ≤ g → w'.heap[i]? = w.heap[i]?) : Rd w' g B := by
  obtain ⟨p, n, cap, A, hb0, hp, hn, hc, hm, hcell⟩ := h.out
  refine ⟨p, n, cap, A, ⟨(hb g (Nat.le_refl _)).trans hb0.out⟩, hp, hn, hc, hm, fun i hi => ?_⟩
  obtain ⟨x, b, hx, hg, hb', hcl⟩ := hcell i hi
  have ha : (x.add i).block = x.block := by unfold Addr.add; split <;> rfl
  refine ⟨x, b, hx, hg, hb', ?_⟩
  rw [← hcl]
  unfold World.cell?
  rw [ha, hb x.block (Nat.le_of_lt hg)]
theorem Rd.le {w : World} {g B C : Nat} (h : Rd w g B) (hc : B ≤ C) : Rd w g C := by
  obtain ⟨p, n, cap, A, hb, hp, rest⟩ := h.out
  exact ⟨p, n, cap, A, hb, Nat.le_trans hp hc, rest⟩
set_option maxRecDepth 100000 in
theorem pick_calls (g B : Nat) (n : Nat) (w : World) (hr : Rd w g B) (hB : B ≤ 1000000000) (hn : 1 ≤ n) (hn2 : n ≤ 1000000000) :
    Calls Tryd.prog 39 #[.pointer (some ⟨g, 0, none⟩), .int .i64 n] w fun e w' => ∃ k : Nat, k < n ∧ e = .returned (.int .i64 k) ∧ Rd w' g (B + 1) ∧ But g w w' := by
  obtain ⟨p, len, cap, A, hb, hp, hlen, hcap, hm, hcell⟩ := hr.out
  have c0 : w.cell? ⟨g, 0, none⟩ = some (.slice A len cap) := (hb.cell 0).trans rfl
  have c1 : w.cell? ⟨g, 1, none⟩ = some (.int .i64 p) := (hb.cell 1).trans rfl
  have fr : ∀ i, w.frozen? ⟨g, i, none⟩ = false := hb.frozen
  have R' : Rd (w.setCell ⟨g, 1, none⟩ (.int .i64 (p + 1))) g (B + 1) := by
    refine ⟨p + 1, len, cap, A, ?_, by omega, hlen, hcap, hm, fun i hi => ?_⟩
    · exact hb.set 1 (.int .i64 ((p : Int) + 1))
    · obtain ⟨x, b, hx, hg, hb', hcl⟩ := hcell i hi
      have ha : (x.add i).block = x.block := by unfold Addr.add; split <;> rfl
      exact ⟨x, b, hx, hg, hb', (But.set g w 1 _).cell (by rw [ha]; exact Nat.ne_of_lt hg) hcl⟩
  have T : But g w (w.setCell ⟨g, 1, none⟩ (.int .i64 (p + 1))) := But.set g w 1 _
  have hcell' : ∀ i, i < len → ∃ (x : Addr) (b : Nat), A = some x ∧ b ≤ 255 ∧ (w.setCell ⟨g, 1, none⟩ (.int .i64 (p + 1))).cell? (x.add i) = some (.int .u8 b) := by
    intro i hi
    obtain ⟨x, b, hx, hg, hb', hcl⟩ := hcell i hi
    have ha : (x.add i).block = x.block := by unfold Addr.add; split <;> rfl
    exact ⟨x, b, hx, hb', T.cell (by rw [ha]; exact Nat.ne_of_lt hg) hcl⟩
  have hn' : (1 : Int) ≤ n := by omega
  have hn2' : (n : Int) ≤ 1000000000 := by omega
  have hp' : (p : Int) ≤ 1000000000 := by omega
  have HC := Lib.hid hcell'
  clear hcell hcell' hb hr
  by_cases h0 : len = 0
  · have h0' : ((len : Int) == 0) = true := by simp [h0]
    go_enter Tryd.func39, Tryd.ntmps39
    go_wp2_with fail
    go_ret
    exact ⟨0, by omega, rfl, R', T⟩
  have h0' : ((len : Int) == 0) = false := by simp [h0]
  by_cases h1 : p < len
  · obtain ⟨x, b, rfl, hb255, hcl⟩ := HC.out p h1
    have hb255' : (b : Int) ≤ 255 := by omega
    go_enter Tryd.func39, Tryd.ntmps39
    go_wp2_with fail
    go_ret
    exact ⟨b % n, Nat.mod_lt _ (by omega), by simp, R', T⟩
  · have hq := Nat.mod_lt p (show len > 0 by omega)
    have hq2 := Nat.mod_lt (p * 7 + 3) (show len > 0 by omega)
    have e1 : Int.tmod (p : Int) (len : Int) = ((p % len : Nat) : Int) := by
      rw [Int.tmod_eq_emod_of_nonneg (by omega)]; simp
    have e2 : Int.tmod ((p : Int) * 7 + 3) (len : Int) = (((p * 7 + 3) % len : Nat) : Int) := by
      rw [Int.tmod_eq_emod_of_nonneg (by omega)]; simp
    have e3 : Int.tdiv (p : Int) (len : Int) = ((p / len : Nat) : Int) := by
      rw [Int.tdiv_eq_ediv_of_nonneg (by omega)]; simp
    have hd : p / len ≤ p := Nat.div_le_self _ _
    generalize p % len = q at *
    generalize (p * 7 + 3) % len = q2 at *
    generalize p / len = d at *
    obtain ⟨x, b, rfl, hb255, hcl⟩ := HC.out q hq
    obtain ⟨x', b2, hx', hb2, hcl2⟩ := HC.out q2 hq2
    cases hx'
    have hb255' : (b : Int) ≤ 255 := by omega
    have hb2' : (b2 : Int) ≤ 255 := by omega
    have i1 : (q : Int) < len := by omega
    have i2 : (q2 : Int) < len := by omega
    have r1 : IntKind.i64.wrap ((p : Int) * 7) = (p : Int) * 7 := wr_i64 _ (by omega) (by omega)
    have r2 : IntKind.i64.wrap ((p : Int) * 7 + 3) = (p : Int) * 7 + 3 := wr_i64 _ (by omega) (by omega)
    have r3 : IntKind.i64.wrap ((b : Int) * 131) = (b : Int) * 131 := wr_i64 _ (by omega) (by omega)
    have r4 : IntKind.i64.wrap ((b2 : Int) * 1117) = (b2 : Int) * 1117 := wr_i64 _ (by omega) (by omega)
    have r5 : IntKind.i64.wrap ((p : Int) * 29) = (p : Int) * 29 := wr_i64 _ (by omega) (by omega)
    have r6 : IntKind.i64.wrap ((d : Int) * 53) = (d : Int) * 53 := wr_i64 _ (by omega) (by omega)
    have r7 : IntKind.i64.wrap ((b : Int) * 131 + (b2 : Int) * 1117) = (b : Int) * 131 + (b2 : Int) * 1117 := wr_i64 _ (by omega) (by omega)
    have r8 : IntKind.i64.wrap ((b : Int) * 131 + (b2 : Int) * 1117 + (p : Int) * 29) = (b : Int) * 131 + (b2 : Int) * 1117 + (p : Int) * 29 := wr_i64 _ (by omega) (by omega)
    have r9 : IntKind.i64.wrap ((b : Int) * 131 + (b2 : Int) * 1117 + (p : Int) * 29 + (d : Int) * 53) = (b : Int) * 131 + (b2 : Int) * 1117 + (p : Int) * 29 + (d : Int) * 53 := wr_i64 _ (by omega) (by omega)
    go_enter Tryd.func39, Tryd.ntmps39
    go_wp2_with fail
    go_quiet (fail)
    go_wp2_with fail
    go_ret
    have x0 : 0 ≤ (b : Int) * 131 + (b2 : Int) * 1117 + (p : Int) * 29 + (d : Int) * 53 := by omega
    have x1 : (b : Int) * 131 + (b2 : Int) * 1117 + (p : Int) * 29 + (d : Int) * 53 ≤ 1000000000000 := by omega
    have hz := xor_nn (x := (b : Int) * 131 + (b2 : Int) * 1117 + (p : Int) * 29 + (d : Int) * 53) (y := ((b : Int) * 131 + (b2 : Int) * 1117 + (p : Int) * 29 + (d : Int) * 53) / 64) x0 (by omega) (by omega) (by omega)
    have D := (On.refl (w.setCell ⟨g, 1, none⟩ (.int .i64 ((p : Int) + 1)))).drewN nq
    have z1 := Int.emod_nonneg (Go.bits .xor .i64 ((b : Int) * 131 + (b2 : Int) * 1117 + (p : Int) * 29 + (d : Int) * 53) (((b : Int) * 131 + (b2 : Int) * 1117 + (p : Int) * 29 + (d : Int) * 53) / 64)) (b := (n : Int)) (by omega)
    have z2 := Int.emod_lt_of_pos (Go.bits .xor .i64 ((b : Int) * 131 + (b2 : Int) * 1117 + (p : Int) * 29 + (d : Int) * 53) (((b : Int) * 131 + (b2 : Int) * 1117 + (p : Int) * 29 + (d : Int) * 53) / 64)) (b := (n : Int)) (by omega)
    refine ⟨((Go.bits .xor .i64 ((b : Int) * 131 + (b2 : Int) * 1117 + (p : Int) * 29 + (d : Int) * 53) (((b : Int) * 131 + (b2 : Int) * 1117 + (p : Int) * 29 + (d : Int) * 53) / 64)) % (n : Int)).toNat, by omega, ?_, R'.on D, T.trans (But.of D)⟩
    show Ending.returned (.int .i64 _) = _
    rw [Int.tmod_eq_emod_of_nonneg hz, Int.toNat_of_nonneg z1]
theorem wf_u8 {n : Int} (h : (Lit.int .u8 n).wf = true) : 0 ≤ n ∧ n ≤ 255 := by
  simpa [Lit.wf, IntKind.min, IntKind.max, IntKind.signed, IntKind.bits] using h
theorem rd_new (a0 : Option Addr) (len0 cap0 : Nat) (z0 : List Int) (w : World) (w0 : (a0 = none ∧ len0 = 0 ∧ cap0 = 0 ∧ z0 = []) ∨ ∃ x, a0 = some x ∧ len0 ≤ cap0 ∧ cap0 ≤ maxLen ∧ z0.length = cap0 ∧ (∀ i, i < z0.length → w.cell? (x.add i) = some (.int .u8 (z0.getD i 0))) ∧ ∀ n ∈ z0, (Lit.int .u8 n).wf = true)
    (n : Nat) (hn : n ≤ len0) (hn2 : n ≤ 2000) : Rd (w.alloc (.cells #[.slice a0 n cap0, .int .i64 0] 64)) w.heap.size 0 := by
  rcases w0 with ⟨rfl, rfl, rfl, rfl⟩ | ⟨x, rfl, h1, h2, h3, h4, h5⟩
  · obtain rfl : n = 0 := by omega
    exact ⟨0, 0, 0, none, Blk.new w _ _, Nat.le_refl _, hn2, Nat.le_refl _, Nat.zero_le _, fun i hi => by omega⟩
  · refine ⟨0, n, cap0, some x, Blk.new w _ _, Nat.le_refl _, hn2, by omega, h2, fun i hi => ?_⟩
    have hc := h4 i (by omega)
    have hm := h5 (z0.getD i 0) (by rw [List.getD_eq_getElem?_getD, List.getElem?_eq_getElem (by omega)]; exact List.getElem_mem _)
    obtain ⟨m0, m1⟩ := wf_u8 hm
    have ha : (x.add i).block = x.block := by unfold Addr.add; split <;> rfl
    have hlt : x.block < w.heap.size := by
      rcases Nat.lt_or_ge x.block w.heap.size with hl | hl
      · exact hl
      · have h2 : w.heap[(x.add i).block]? = none := by rw [ha]; exact Array.getElem?_eq_none hl
        simp [World.cell?, h2] at hc
    refine ⟨x, (z0.getD i 0).toNat, rfl, by omega, by omega, ?_⟩
    rw [((On.refl w).alloc _).cell (by rw [ha]; exact hlt), hc, Int.toNat_of_nonneg m0]
set_option maxRecDepth 100000 in
theorem open_calls (a0 : Option Addr) (len0 cap0 : Nat) (z0 : List Int) (w : World) (w0 : (a0 = none ∧ len0 = 0 ∧ cap0 = 0 ∧ z0 = []) ∨ ∃ x, a0 = some x ∧ len0 ≤ cap0 ∧ cap0 ≤ maxLen ∧ z0.length = cap0 ∧ (∀ i, i < z0.length → w.cell? (x.add i) = some (.int .u8 (z0.getD i 0))) ∧ ∀ n ∈ z0, (Lit.int .u8 n).wf = true) :
    Calls Tryd.prog 27 #[.slice a0 len0 cap0] w fun e w' => ∃ g, e = .returned (.pointer (some ⟨g, 0, none⟩)) ∧ Rd w' g 0 ∧ w.heap.size ≤ g ∧ On w w' := by
  by_cases h : len0 ≤ 2000
  · have h' : (len0 : Int) ≤ 2000 := by omega
    go_enter Tryd.func27, Tryd.ntmps27
    go_wp2_with fail
    go_ret
    exact ⟨w.heap.size, rfl, rd_new a0 len0 cap0 z0 w w0 len0 (Nat.le_refl _) h, Nat.le_refl _, (On.refl w).alloc _⟩
  · have h' : (2000 : Int) < len0 := by omega
    go_enter Tryd.func27, Tryd.ntmps27
    go_wp2_with fail
    go_ret
    exact ⟨w.heap.size, rfl, rd_new a0 len0 cap0 z0 w w0 2000 (by omega) (Nat.le_refl _), Nat.le_refl _, (On.refl w).alloc _⟩
set_option maxRecDepth 100000 in
theorem of_calls (g B : Nat) (q cap n : Nat) (xs : List Value) (w : World) (hr : Rd w g B) (hB : B ≤ 1000000000) (hrow : Row w q 9 xs) (hxs : xs.length = n) (hn : 1 ≤ n) (hn2 : n ≤ 1000000000) (hc : n ≤ cap) (hq : q ≠ g) :
    Calls Tryd.prog 40 #[.pointer (some ⟨g, 0, none⟩), .slice (some ⟨q, 0, none⟩) n cap] w fun e w' => ∃ v, v ∈ xs ∧ e = .returned v ∧ Rd w' g (B + 1) ∧ But g w w' := by
  go_enter Tryd.func40, Tryd.ntmps40
  go_wp2_with fail
  refine (pick_calls g B n w hr hB hn hn2).mono ?_
  rintro e w1 ⟨k, hk, rfl, hr1, T⟩
  have hk' : k < xs.length := by omega
  have c0 : w1.cell? ⟨q, k, none⟩ = some xs[k] := (T.row hrow hq).cell (by simp [hk'])
  have hmem : xs[k] ∈ xs := List.getElem_mem hk'
  generalize xs[k] = x at *
  have hkn : (k : Int) < n := by omega
  go_wp2_with fail
  go_ret
  exact ⟨x, hmem, rfl, hr1, T⟩
set_option maxRecDepth 100000 in
theorem one_calls (g B : Nat) (q cap n : Nat) (xs : List Value) (w : World) (hr : Rd w g B) (hB : B ≤ 1000000000) (hrow : Row w q 3 xs) (hxs : xs.length = n) (hn : 1 ≤ n) (hn2 : n ≤ 1000000000) (hc : n ≤ cap) (hq : q ≠ g) :
    Calls Tryd.prog 54 #[.pointer (some ⟨g, 0, none⟩), .slice (some ⟨q, 0, none⟩) n cap] w fun e w' => ∃ v, v ∈ xs ∧ e = .returned v ∧ Rd w' g (B + 1) ∧ But g w w' := by
  go_enter Tryd.func54, Tryd.ntmps54
  go_wp2_with fail
  refine (pick_calls g B n w hr hB hn hn2).mono ?_
  rintro e w1 ⟨k, hk, rfl, hr1, T⟩
  have hk' : k < xs.length := by omega
  have c0 : w1.cell? ⟨q, k, none⟩ = some xs[k] := (T.row hrow hq).cell (by simp [hk'])
  have hmem : xs[k] ∈ xs := List.getElem_mem hk'
  generalize xs[k] = x at *
  have hkn : (k : Int) < n := by omega
  go_wp2_with fail
  go_ret
  exact ⟨x, hmem, rfl, hr1, T⟩
end Go.Proofs.YtpbfhflggicpiaaDoor.Draw
