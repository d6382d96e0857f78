/- Own texts joined: Draw, DrawT, DrawN, DrawE. -/
import Derived.Test.YtnadjlejlohgiaaGreatDoorChecked
import Derived.Lib.Hide
import Derived.WalkKit
import Derived.WalkSpells
import Derived.Laws.BitsLemmas
import Derived.Deep.QuietTactic
import Derived.BigQuiet
import Derived.Deep.DeepCutAuto
import Derived.Test.YtnadjlejlohgiaaGreatDoorS1
import Derived.Test.YtnadjlejlohgiaaGreatDoorS2
import Derived.Test.YtnadjlejlohgiaaGreatDoorS22
/- The draws' reader: each pick is some number below its bound; the reader's block alone changes. Conditions: the counts of picks are small. -/
namespace Go.Proofs.YtnadjlejlohgiaaGreatDoor.Draw
open Go.RowKit Go.Proofs.YtnadjlejlohgiaaGreatDoor.Mem
set_option linter.unusedVariables false
set_option linter.unusedSimpArgs false
theorem wr_i64 (n : Int) (h₀ : 0 ≤ n) (h₁ : n < 2 ^ 63) : IntKind.i64.wrap n = n := by rw [IntKind.wrap_i64]; omega
theorem xor_nn {x y : Int} (x0 : 0 ≤ x) (x1 : x < 9223372036854775808) (y0 : 0 ≤ y) (y1 : y < 9223372036854775808) : 0 ≤ Go.bits .xor .i64 x y := by
  obtain ⟨a, rfl⟩ := Int.eq_ofNat_of_zero_le x0
  obtain ⟨b, rfl⟩ := Int.eq_ofNat_of_zero_le y0
  have ha : a < 2 ^ 63 := by omega
  have hb : b < 2 ^ 63 := by omega
  have hx := Nat.xor_lt_two_pow ha hb
  have ha' : a % 2 ^ IntKind.i64.bits = a := by show a % 2 ^ 64 = a; omega
  have hb' : b % 2 ^ IntKind.i64.bits = b := by show b % 2 ^ 64 = b; omega
  simp only [Go.bits, BitVec.ofInt_natCast, BitVec.toNat_xor, BitVec.toNat_ofNat, ha', hb']
  rw [wr_i64 _ (by omega) (by omega)]
  omega
/-- Everything that was stays, but for block g. -/
structure But (g : Nat) (w w' : World) : Prop where mk :: (out : w.grownBy w' (some g))
theorem But.refl (g : Nat) (w : World) : But g w w := ⟨⟨rfl, rfl, rfl, Nat.le_refl _, fun _ _ _ => rfl⟩⟩
theorem But.trans {g : Nat} {a b c : World} (h : But g a b) (k : But g b c) : But g a c :=
  ⟨⟨k.out.os.trans h.out.os, k.out.tape.trans h.out.tape, k.out.output.trans h.out.output, Nat.le_trans h.out.size k.out.size, fun i hi hg => (k.out.block i (Nat.lt_of_lt_of_le hi h.out.size) hg).trans (h.out.block i hi hg)⟩⟩
theorem But.of {g : Nat} {a b : World} (h : On a b) : But g a b := ⟨⟨h.out.os, h.out.tape, h.out.output, h.out.size, fun i hi _ => h.out.block i hi⟩⟩
theorem But.set (g : Nat) (w : World) (i : Nat) (u : Value) : But g w (w.setCell ⟨g, i, none⟩ u) := by
  refine ⟨⟨rfl, rfl, rfl, ?_, fun j _ hj => Below.heap_setCell w ⟨g, i, none⟩ u j (fun e => hj (by rw [e]))⟩⟩
  simp [World.setCell]
theorem But.on {g : Nat} {a w w' : World} (h : But g w w') (O : On a w) (hg : a.heap.size ≤ g) : On a w' := O.grown h.out (fun _ e => by cases e; exact hg)
theorem But.blk {g k t : Nat} {w w' : World} {cs : Array Value} (h : But g w w') (b : Blk w k t cs) (hk : k ≠ g) : Blk w' k t cs := b.grown h.out (fun e => hk (by cases e; rfl))
theorem But.row {g k t : Nat} {w w' : World} {xs : List Value} (h : But g w w') (b : Row w k t xs) (hk : k ≠ g) : Row w' k t xs := by
  obtain ⟨cs, hb, ht⟩ := b.out
  exact ⟨cs, h.blk hb hk, ht⟩
theorem But.size {g : Nat} {w w' : World} (h : But g w w') : w.heap.size ≤ w'.heap.size := h.out.size
theorem But.cell {g : Nat} {w w' : World} (h : But g w w') {p : Addr} {v : Value} (hp : p.block ≠ g) (hc : w.cell? p = some v) : w'.cell? p = some v := by
  have hlt : p.block < w.heap.size := by
    rcases Nat.lt_or_ge p.block w.heap.size with hl | hl
    · exact hl
    · have h2 : w.heap[p.block]? = none := Array.getElem?_eq_none hl
      simp [World.cell?, h2] at hc
  rw [← hc]
  have hb := h.out.block p.block hlt (fun e => hp (by cases e; rfl))
  unfold World.cell?
  rw [hb]
/-- The reader at block g: at most B picks so far, its bytes lie elsewhere. -/
structure Rd (w : World) (g B : Nat) : Prop where mk :: (out : ∃ (p n cap : Nat) (A : Option Addr), Blk w g 83 #[.slice A n cap, .int .i64 p] ∧ p ≤ B ∧ n ≤ 2000 ∧ n ≤ cap ∧ cap ≤ maxLen ∧
  ∀ i, i < n → ∃ (x : Addr) (b : Nat), A = some x ∧ x.block < g ∧ b ≤ 255 ∧ w.cell? (x.add i) = some (.int .u8 b))
theorem Rd.lt {w : World} {g B : Nat} (h : Rd w g B) : g < w.heap.size := by
  obtain ⟨p, n, cap, A, hb, _⟩ := h.out
  exact hb.lt
theorem Rd.on {w w' : World} {g B : Nat} (h : Rd w g B) (O : On w w') : Rd w' g B := by
  obtain ⟨p, n, cap, A, hb, hp, hn, hc, hm, hcell⟩ := h.out
  refine ⟨p, n, cap, A, O.blk hb, hp, hn, hc, hm, fun i hi => ?_⟩
  obtain ⟨x, b, hx, hg, hb', hcl⟩ := hcell i hi
  have ha : (x.add i).block = x.block := by unfold Addr.add; split <;> rfl
  exact ⟨x, b, hx, hg, hb', (But.of (g := g) O).cell (by rw [ha]; exact Nat.ne_of_lt hg) hcl⟩
/-- Rows made behind the reader may change. -/
theorem Rd.grow {w w' : World} {g B : Nat} (h : Rd w g B) (hgl : g < w.heap.size) (hb : ∀ i, i ≤ g → w'.heap[i]? = w.heap[i]?) : Rd w' g B := by
  obtain ⟨p, n, cap, A, hb0, hp, hn, hc, hm, hcell⟩ := h.out
  refine ⟨p, n, cap, A, ⟨(hb g (Nat.le_refl _)).trans hb0.out⟩, hp, hn, hc, hm, fun i hi => ?_⟩
  obtain ⟨x, b, hx, hg, hb', hcl⟩ := hcell i hi
  have ha : (x.add i).block = x.block := by unfold Addr.add; split <;> rfl
  refine ⟨x, b, hx, hg, hb', ?_⟩
  rw [← hcl]
  unfold World.cell?
  rw [ha, hb x.block (Nat.le_of_lt hg)]
theorem Rd.le {w : World} {g B C : Nat} (h : Rd w g B) (hc : B ≤ C) : Rd w g C := by
  obtain ⟨p, n, cap, A, hb, hp, rest⟩ := h.out
  exact ⟨p, n, cap, A, hb, Nat.le_trans hp hc, rest⟩
set_option maxRecDepth 100000 in
theorem pick_calls (g B : Nat) (n : Nat) (w : World) (hr : Rd w g B) (hB : B ≤ 1000000000) (hn : 1 ≤ n) (hn2 : n ≤ 1000000000) :
    Calls Tryz.prog 66 #[.pointer (some ⟨g, 0, none⟩), .int .i64 n] w fun e w' => ∃ k : Nat, k < n ∧ e = .returned (.int .i64 k) ∧ Rd w' g (B + 1) ∧ But g w w' := by
  obtain ⟨p, len, cap, A, hb, hp, hlen, hcap, hm, hcell⟩ := hr.out
  have c0 : w.cell? ⟨g, 0, none⟩ = some (.slice A len cap) := (hb.cell 0).trans rfl
  have c1 : w.cell? ⟨g, 1, none⟩ = some (.int .i64 p) := (hb.cell 1).trans rfl
  have fr : ∀ i, w.frozen? ⟨g, i, none⟩ = false := hb.frozen
  have R' : Rd (w.setCell ⟨g, 1, none⟩ (.int .i64 (p + 1))) g (B + 1) := by
    refine ⟨p + 1, len, cap, A, ?_, by omega, hlen, hcap, hm, fun i hi => ?_⟩
    · exact hb.set 1 (.int .i64 ((p : Int) + 1))
    · obtain ⟨x, b, hx, hg, hb', hcl⟩ := hcell i hi
      have ha : (x.add i).block = x.block := by unfold Addr.add; split <;> rfl
      exact ⟨x, b, hx, hg, hb', (But.set g w 1 _).cell (by rw [ha]; exact Nat.ne_of_lt hg) hcl⟩
  have T : But g w (w.setCell ⟨g, 1, none⟩ (.int .i64 (p + 1))) := But.set g w 1 _
  have hcell' : ∀ i, i < len → ∃ (x : Addr) (b : Nat), A = some x ∧ b ≤ 255 ∧ (w.setCell ⟨g, 1, none⟩ (.int .i64 (p + 1))).cell? (x.add i) = some (.int .u8 b) := by
    intro i hi
    obtain ⟨x, b, hx, hg, hb', hcl⟩ := hcell i hi
    have ha : (x.add i).block = x.block := by unfold Addr.add; split <;> rfl
    exact ⟨x, b, hx, hb', T.cell (by rw [ha]; exact Nat.ne_of_lt hg) hcl⟩
  have hn' : (1 : Int) ≤ n := by omega
  have hn2' : (n : Int) ≤ 1000000000 := by omega
  have hp' : (p : Int) ≤ 1000000000 := by omega
  have HC := Lib.hid hcell'
  clear hcell hcell' hb hr
  by_cases h0 : len = 0
  · have h0' : ((len : Int) == 0) = true := by simp [h0]
    go_enter Tryz.func66, Tryz.ntmps66
    go_wp2_with fail
    go_ret
    exact ⟨0, by omega, rfl, R', T⟩
  have h0' : ((len : Int) == 0) = false := by simp [h0]
  by_cases h1 : p < len
  · obtain ⟨x, b, rfl, hb255, hcl⟩ := HC.out p h1
    have hb255' : (b : Int) ≤ 255 := by omega
    go_enter Tryz.func66, Tryz.ntmps66
    go_wp2_with fail
    go_ret
    exact ⟨b % n, Nat.mod_lt _ (by omega), by simp, R', T⟩
  · have hq := Nat.mod_lt p (show len > 0 by omega)
    have hq2 := Nat.mod_lt (p * 7 + 3) (show len > 0 by omega)
    have e1 : Int.tmod (p : Int) (len : Int) = ((p % len : Nat) : Int) := by
      rw [Int.tmod_eq_emod_of_nonneg (by omega)]; simp
    have e2 : Int.tmod ((p : Int) * 7 + 3) (len : Int) = (((p * 7 + 3) % len : Nat) : Int) := by
      rw [Int.tmod_eq_emod_of_nonneg (by omega)]; simp
    have e3 : Int.tdiv (p : Int) (len : Int) = ((p / len : Nat) : Int) := by
      rw [Int.tdiv_eq_ediv_of_nonneg (by omega)]; simp
    have hd : p / len ≤ p := Nat.div_le_self _ _
    generalize p % len = q at *
    generalize (p * 7 + 3) % len = q2 at *
    generalize p / len = d at *
    obtain ⟨x, b, rfl, hb255, hcl⟩ := HC.out q hq
    obtain ⟨x', b2, hx', hb2, hcl2⟩ := HC.out q2 hq2
    cases hx'
    have hb255' : (b : Int) ≤ 255 := by omega
    have hb2' : (b2 : Int) ≤ 255 := by omega
    have i1 : (q : Int) < len := by omega
    have i2 : (q2 : Int) < len := by omega
    have r1 : IntKind.i64.wrap ((p : Int) * 7) = (p : Int) * 7 := wr_i64 _ (by omega) (by omega)
    have r2 : IntKind.i64.wrap ((p : Int) * 7 + 3) = (p : Int) * 7 + 3 := wr_i64 _ (by omega) (by omega)
    have r3 : IntKind.i64.wrap ((b : Int) * 131) = (b : Int) * 131 := wr_i64 _ (by omega) (by omega)
    have r4 : IntKind.i64.wrap ((b2 : Int) * 1117) = (b2 : Int) * 1117 := wr_i64 _ (by omega) (by omega)
    have r5 : IntKind.i64.wrap ((p : Int) * 29) = (p : Int) * 29 := wr_i64 _ (by omega) (by omega)
    have r6 : IntKind.i64.wrap ((d : Int) * 53) = (d : Int) * 53 := wr_i64 _ (by omega) (by omega)
    have r7 : IntKind.i64.wrap ((b : Int) * 131 + (b2 : Int) * 1117) = (b : Int) * 131 + (b2 : Int) * 1117 := wr_i64 _ (by omega) (by omega)
    have r8 : IntKind.i64.wrap ((b : Int) * 131 + (b2 : Int) * 1117 + (p : Int) * 29) = (b : Int) * 131 + (b2 : Int) * 1117 + (p : Int) * 29 := wr_i64 _ (by omega) (by omega)
    have r9 : IntKind.i64.wrap ((b : Int) * 131 + (b2 : Int) * 1117 + (p : Int) * 29 + (d : Int) * 53) = (b : Int) * 131 + (b2 : Int) * 1117 + (p : Int) * 29 + (d : Int) * 53 := wr_i64 _ (by omega) (by omega)
    go_enter Tryz.func66, Tryz.ntmps66
    go_wp2_with fail
    go_quiet (fail)
    go_wp2_with fail
    go_ret
    have x0 : 0 ≤ (b : Int) * 131 + (b2 : Int) * 1117 + (p : Int) * 29 + (d : Int) * 53 := by omega
    have x1 : (b : Int) * 131 + (b2 : Int) * 1117 + (p : Int) * 29 + (d : Int) * 53 ≤ 1000000000000 := by omega
    have hz := xor_nn (x := (b : Int) * 131 + (b2 : Int) * 1117 + (p : Int) * 29 + (d : Int) * 53) (y := ((b : Int) * 131 + (b2 : Int) * 1117 + (p : Int) * 29 + (d : Int) * 53) / 64) x0 (by omega) (by omega) (by omega)
    have D := (On.refl (w.setCell ⟨g, 1, none⟩ (.int .i64 ((p : Int) + 1)))).drewN nq
    have z1 := Int.emod_nonneg (Go.bits .xor .i64 ((b : Int) * 131 + (b2 : Int) * 1117 + (p : Int) * 29 + (d : Int) * 53) (((b : Int) * 131 + (b2 : Int) * 1117 + (p : Int) * 29 + (d : Int) * 53) / 64)) (b := (n : Int)) (by omega)
    have z2 := Int.emod_lt_of_pos (Go.bits .xor .i64 ((b : Int) * 131 + (b2 : Int) * 1117 + (p : Int) * 29 + (d : Int) * 53) (((b : Int) * 131 + (b2 : Int) * 1117 + (p : Int) * 29 + (d : Int) * 53) / 64)) (b := (n : Int)) (by omega)
    refine ⟨((Go.bits .xor .i64 ((b : Int) * 131 + (b2 : Int) * 1117 + (p : Int) * 29 + (d : Int) * 53) (((b : Int) * 131 + (b2 : Int) * 1117 + (p : Int) * 29 + (d : Int) * 53) / 64)) % (n : Int)).toNat, by omega, ?_, R'.on D, T.trans (But.of D)⟩
    show Ending.returned (.int .i64 _) = _
    rw [Int.tmod_eq_emod_of_nonneg hz, Int.toNat_of_nonneg z1]
theorem wf_u8 {n : Int} (h : (Lit.int .u8 n).wf = true) : 0 ≤ n ∧ n ≤ 255 := by
  simpa [Lit.wf, IntKind.min, IntKind.max, IntKind.signed, IntKind.bits] using h
theorem rd_new (a0 : Option Addr) (len0 cap0 : Nat) (z0 : List Int) (w : World) (w0 : (a0 = none ∧ len0 = 0 ∧ cap0 = 0 ∧ z0 = []) ∨ ∃ x, a0 = some x ∧ len0 ≤ cap0 ∧ cap0 ≤ maxLen ∧ z0.length = cap0 ∧ (∀ i, i < z0.length → w.cell? (x.add i) = some (.int .u8 (z0.getD i 0))) ∧ ∀ n ∈ z0, (Lit.int .u8 n).wf = true)
    (n : Nat) (hn : n ≤ len0) (hn2 : n ≤ 2000) : Rd (w.alloc (.cells #[.slice a0 n cap0, .int .i64 0] 83)) w.heap.size 0 := by
  rcases w0 with ⟨rfl, rfl, rfl, rfl⟩ | ⟨x, rfl, h1, h2, h3, h4, h5⟩
  · obtain rfl : n = 0 := by omega
    exact ⟨0, 0, 0, none, Blk.new w _ _, Nat.le_refl _, hn2, Nat.le_refl _, Nat.zero_le _, fun i hi => by omega⟩
  · refine ⟨0, n, cap0, some x, Blk.new w _ _, Nat.le_refl _, hn2, by omega, h2, fun i hi => ?_⟩
    have hc := h4 i (by omega)
    have hm := h5 (z0.getD i 0) (by rw [List.getD_eq_getElem?_getD, List.getElem?_eq_getElem (by omega)]; exact List.getElem_mem _)
    obtain ⟨m0, m1⟩ := wf_u8 hm
    have ha : (x.add i).block = x.block := by unfold Addr.add; split <;> rfl
    have hlt : x.block < w.heap.size := by
      rcases Nat.lt_or_ge x.block w.heap.size with hl | hl
      · exact hl
      · have h2 : w.heap[(x.add i).block]? = none := by rw [ha]; exact Array.getElem?_eq_none hl
        simp [World.cell?, h2] at hc
    refine ⟨x, (z0.getD i 0).toNat, rfl, by omega, by omega, ?_⟩
    rw [((On.refl w).alloc _).cell (by rw [ha]; exact hlt), hc, Int.toNat_of_nonneg m0]
set_option maxRecDepth 100000 in
theorem open_calls (a0 : Option Addr) (len0 cap0 : Nat) (z0 : List Int) (w : World) (w0 : (a0 = none ∧ len0 = 0 ∧ cap0 = 0 ∧ z0 = []) ∨ ∃ x, a0 = some x ∧ len0 ≤ cap0 ∧ cap0 ≤ maxLen ∧ z0.length = cap0 ∧ (∀ i, i < z0.length → w.cell? (x.add i) = some (.int .u8 (z0.getD i 0))) ∧ ∀ n ∈ z0, (Lit.int .u8 n).wf = true) :
    Calls Tryz.prog 41 #[.slice a0 len0 cap0] w fun e w' => ∃ g, e = .returned (.pointer (some ⟨g, 0, none⟩)) ∧ Rd w' g 0 ∧ w.heap.size ≤ g ∧ On w w' := by
  by_cases h : len0 ≤ 2000
  · have h' : (len0 : Int) ≤ 2000 := by omega
    go_enter Tryz.func41, Tryz.ntmps41
    go_wp2_with fail
    go_ret
    exact ⟨w.heap.size, rfl, rd_new a0 len0 cap0 z0 w w0 len0 (Nat.le_refl _) h, Nat.le_refl _, (On.refl w).alloc _⟩
  · have h' : (2000 : Int) < len0 := by omega
    go_enter Tryz.func41, Tryz.ntmps41
    go_wp2_with fail
    go_ret
    exact ⟨w.heap.size, rfl, rd_new a0 len0 cap0 z0 w w0 2000 (by omega) (Nat.le_refl _), Nat.le_refl _, (On.refl w).alloc _⟩
set_option maxRecDepth 100000 in
theorem of_calls (g B : Nat) (q cap n : Nat) (xs : List Value) (w : World) (hr : Rd w g B) (hB : B ≤ 1000000000) (hrow : Row w q 9 xs) (hxs : xs.length = n) (hn : 1 ≤ n) (hn2 : n ≤ 1000000000) (hc : n ≤ cap) (hq : q ≠ g) :
    Calls Tryz.prog 67 #[.pointer (some ⟨g, 0, none⟩), .slice (some ⟨q, 0, none⟩) n cap] w fun e w' => ∃ v, v ∈ xs ∧ e = .returned v ∧ Rd w' g (B + 1) ∧ But g w w' := by
  go_enter Tryz.func67, Tryz.ntmps67
  go_wp2_with fail
  refine (pick_calls g B n w hr hB hn hn2).mono ?_
  rintro e w1 ⟨k, hk, rfl, hr1, T⟩
  have hk' : k < xs.length := by omega
  have c0 : w1.cell? ⟨q, k, none⟩ = some xs[k] := (T.row hrow hq).cell (by simp [hk'])
  have hmem : xs[k] ∈ xs := List.getElem_mem hk'
  generalize xs[k] = x at *
  have hkn : (k : Int) < n := by omega
  go_wp2_with fail
  go_ret
  exact ⟨x, hmem, rfl, hr1, T⟩
set_option maxRecDepth 100000 in
theorem one_calls (g B : Nat) (q cap n : Nat) (xs : List Value) (w : World) (hr : Rd w g B) (hB : B ≤ 1000000000) (hrow : Row w q 3 xs) (hxs : xs.length = n) (hn : 1 ≤ n) (hn2 : n ≤ 1000000000) (hc : n ≤ cap) (hq : q ≠ g) :
    Calls Tryz.prog 99 #[.pointer (some ⟨g, 0, none⟩), .slice (some ⟨q, 0, none⟩) n cap] w fun e w' => ∃ v, v ∈ xs ∧ e = .returned v ∧ Rd w' g (B + 1) ∧ But g w w' := by
  go_enter Tryz.func99, Tryz.ntmps99
  go_wp2_with fail
  refine (pick_calls g B n w hr hB hn hn2).mono ?_
  rintro e w1 ⟨k, hk, rfl, hr1, T⟩
  have hk' : k < xs.length := by omega
  have c0 : w1.cell? ⟨q, k, none⟩ = some xs[k] := (T.row hrow hq).cell (by simp [hk'])
  have hmem : xs[k] ∈ xs := List.getElem_mem hk'
  generalize xs[k] = x at *
  have hkn : (k : Int) < n := by omega
  go_wp2_with fail
  go_ret
  exact ⟨x, hmem, rfl, hr1, T⟩
end Go.Proofs.YtnadjlejlohgiaaGreatDoor.Draw

/- The draws of texts: some text, not a long one. -/
namespace Go.Proofs.YtnadjlejlohgiaaGreatDoor.Draw
open Go.RowKit Go.Proofs.YtnadjlejlohgiaaGreatDoor.Mem Go.Proofs.YtnadjlejlohgiaaGreatDoor.Wi
set_option linter.unusedVariables false
set_option linter.unusedSimpArgs false
theorem tmod_nat (a b : Nat) : Int.tmod (a : Int) (b : Int) = ((a % b : Nat) : Int) := by rw [Int.tmod_eq_emod_of_nonneg (by omega)]; simp
theorem tdiv_nat (a b : Nat) : Int.tdiv (a : Int) (b : Int) = ((a / b : Nat) : Int) := by rw [Int.tdiv_eq_ediv_of_nonneg (by omega)]; simp
theorem wr_u8 (n : Int) (h₀ : 0 ≤ n) (h₁ : n < 2 ^ 8) : IntKind.u8.wrap n = n := by
  have e : IntKind.u8.wrap n = n % 256 := rfl
  rw [e]; omega
theorem By.new (w : World) : By (w.alloc (.cells #[] 5)) w.heap.size 0 [] := by
  refine ⟨⟨?_, fun g hg => by simp [Value.ownBlock] at hg; exact hg.symm⟩⟩
  exact World.ownsRow_lit w (base := 0) (e := 5) (size := 1) #[] 0 (Nat.zero_le _) (by unfold maxLen; omega) (by simp)
set_option maxRecDepth 100000 in
theorem many_calls (s : ByteArray) (n : Nat) (w : World) (hs : s.size ≤ 1000) (hn : n ≤ 1000) :
    Calls Tryz.prog 100 #[.string s, .int .i64 n] w fun e w' => ∃ o : ByteArray, o.size ≤ n * s.size ∧ e = .returned (.string o) ∧ On w w' := by
  obtain ⟨M, hM⟩ : ∃ M, n * s.size = M := ⟨_, rfl⟩
  have hMb : M ≤ 1000000 := by rw [← hM]; have := Nat.mul_le_mul hn hs; omega
  have HM := Lib.hid hM
  rw [hM]
  clear hM
  go_enter Tryz.func100, Tryz.ntmps100
  go_wp2_with fail
  go_loopw [0, 1, 5] (fun a b c wr => ∃ (t o : ByteArray) (k : Nat), a = .string t ∧ b = .int .i64 (k : Int) ∧ c = .string o ∧ RowKit.Hid (o.size + k * t.size ≤ M ∧ t.size ≤ 4000000) ∧ k ≤ 1000 ∧ On w wr) (fun _ b _ _ => (intOf b).toNat)
  case atStart => exact ⟨s, ⟨#[]⟩, n, rfl, rfl, rfl, Lib.hid ⟨by show 0 + n * s.size ≤ _; rw [HM.out]; omega, by omega⟩, hn, On.refl _⟩
  case round =>
    obtain ⟨t, o, k, rfl, rfl, rfl, HB, hk, O⟩ := hrel
    by_cases h0 : k = 0
    · subst h0
      go_wp2_with fail
      go_ret
      exact ⟨o, by have := HB.out.1; omega, rfl, O⟩
    · have h0' : (0 : Int) < k := by omega
      obtain ⟨hb1, hb2⟩ := HB.out
      have ht : t.size ≤ 1000000 := by have := Nat.le_mul_of_pos_left t.size (show 0 < k by omega); omega
      have ho : o.size ≤ 1000000 := by omega
      have e2 : Int.tmod (k : Int) 2 = ((k % 2 : Nat) : Int) := tmod_nat k 2
      have e3 : Int.tdiv (k : Int) 2 = ((k / 2 : Nat) : Int) := tdiv_nat k 2
      have hq : k * t.size = k / 2 * (t.size + t.size) + k % 2 * t.size := by
        conv => lhs; rw [← Nat.div_add_mod k 2]
        rw [Nat.add_mul, Nat.mul_add, Nat.mul_assoc, Nat.two_mul]
      obtain ⟨q, hqk⟩ : ∃ q, k / 2 = q := ⟨_, rfl⟩
      have hqlt : q < k := by omega
      rw [hqk] at hq e3
      have HQ := Lib.hid hq
      clear hq hb1 hb2 hqk
      have st : (t ++ t).size = t.size + t.size := ByteArray.size_append
      have so : (o ++ t).size = o.size + t.size := ByteArray.size_append
      have ST := Lib.hid st
      have SO := Lib.hid so
      clear st so
      by_cases h1 : k % 2 = 1
      case' pos => rw [h1] at e2
      case' neg =>
        have h10 : k % 2 = 0 := by omega
        rw [h10] at e2
      all_goals
        go_wp2_with fail
        go_roundw
        case rel =>
          first
          | refine ⟨t ++ t, o ++ t, q, rfl, rfl, rfl, Lib.hid ⟨?_, by rw [ST.out]; omega⟩, by omega, O⟩
            have a := HQ.out
            have b := HB.out.1
            rw [h1] at a
            rw [ST.out, SO.out]; omega
          | refine ⟨t ++ t, o, q, rfl, rfl, rfl, Lib.hid ⟨?_, by rw [ST.out]; omega⟩, by omega, O⟩
            have a := HQ.out
            have b := HB.out.1
            rw [ST.out]; omega
        case measure => simp [intOf]; omega
theorem But.kp {g : Nat} {w w' : World} (h : But g w w') : Kp [g] w w' := ⟨h.out.os, h.out.tape, h.out.output, h.out.size, fun i hi hs => h.out.block i hi (fun e => hs (by cases e; simp))⟩
theorem But.ofKp {g : Nat} {w w' : World} (h : Kp [g] w w') : But g w w' := ⟨⟨h.os, h.tape, h.output, h.size, fun i hi hs => h.block i hi (fun e => hs (by simp at e; rw [e]))⟩⟩
theorem Rd.kp {w w' : World} {g B : Nat} {S : List Nat} (h : Rd w g B) (k : Kp S w w') (hs : ∀ y ∈ S, g < y) : Rd w' g B :=
  h.grow h.lt (fun i hi => k.block i (Nat.lt_of_le_of_lt hi h.lt) (fun hm => by have := hs i hm; omega))
set_option maxRecDepth 100000 in
theorem text_calls (g B : Nat) (w : World) (hr : Rd w g B) (hB : B ≤ 100000000) :
    Calls Tryz.prog 98 #[.pointer (some ⟨g, 0, none⟩)] w fun e w' => ∃ s : ByteArray, s.size ≤ 300 ∧ e = .returned (.string s) ∧ Rd w' g (B + 50) ∧ But g w w' := by
  go_enter Tryz.func98, Tryz.ntmps98
  go_wp2_with fail
  refine (pick_calls g B 8 w hr (by omega) (by omega) (by omega)).mono ?_
  rintro e w1 ⟨k, hk, rfl, hr1, T⟩
  by_cases h0 : k = 0
  · subst h0
    go_wp2_with fail
    go_ret
    exact ⟨⟨#[]⟩, by show 0 ≤ _; omega, rfl, hr1.le (by omega), T⟩
  by_cases h1 : k = 1
  · subst h1
    go_wp2_with fail
    refine (of_calls g (B + 1) w1.heap.size 4 4 _ _ (hr1.on ((On.refl w1).alloc _)) (by omega) (Row.of (Blk.new w1 _ _)) rfl (by omega) (by omega) (by omega) (Nat.ne_of_gt hr1.lt)).mono ?_
    rintro e w2 ⟨v, hv, rfl, hr2, T2⟩
    replace T := T.trans ((But.of (g := g) ((On.refl w1).alloc _)).trans T2)
    have hs : ∃ s : ByteArray, s.size ≤ 6 ∧ v = .string s := by
      simp at hv
      rcases hv with rfl | rfl | rfl | rfl <;> exact ⟨_, by decide, rfl⟩
    obtain ⟨s, hs, rfl⟩ := hs
    clear hv
    go_wp2_with fail
    refine (pick_calls g (B + 1 + 1) 40 w2 hr2 (by omega) (by omega) (by omega)).mono ?_
    rintro e w3 ⟨j, hj, rfl, hr3, T3⟩
    have ej : IntKind.i64.wrap (1 + (j : Int)) = ((1 + j : Nat) : Int) := by rw [IntKind.wrap_i64]; omega
    go_wp2_with fail
    refine (many_calls s (1 + j) w3 (by omega) (by omega)).mono ?_
    rintro e w4 ⟨o, ho, rfl, O4⟩
    have ho2 : (1 + j) * s.size ≤ 40 * 6 := Nat.mul_le_mul (by omega) hs
    go_wp2_with fail
    go_ret
    exact ⟨o, by omega, rfl, (hr3.on O4).le (by omega), (T.trans T3).trans (But.of O4)⟩
  by_cases h2 : k = 2
  · subst h2
    go_wp2_with fail
    have O2 := (On.refl w1).alloc (.cells #[] 5)
    have B2 := By.new w1
    have T2 := T.trans (But.of (g := g) O2)
    have hr2 := hr1.on O2
    have hz2 : (w1.alloc (.cells #[] 5)).heap.size = w1.heap.size + 1 := Array.size_push _
    have hgl := hr1.lt
    have hz0 := T.size
    generalize hr0 : w1.heap.size = r at *
    generalize w1.alloc (.cells #[] 5) = w2 at *
    refine (pick_calls g (B + 1) 40 w2 hr2 (by omega) (by omega) (by omega)).mono ?_
    rintro e w3 ⟨n, hn, rfl, hr3, T3⟩
    have B3 := B2.kp T3.kp (by simp; omega)
    replace T3 := T2.trans T3
    go_wp2_with fail
    go_loopw [3, 4] (fun o x wr => ∃ (r' cap : Nat) (l : List Nat) (m : Nat), o = .slice (some ⟨r', 0, none⟩) l.length cap ∧ x = .int .i64 (m : Int) ∧ RowKit.Hid (l.length + m = n) ∧ m ≤ n ∧ By wr r' cap l ∧ Rd wr g (B + 2 + l.length) ∧ But g w wr ∧ w.heap.size ≤ r' ∧ g < r') (fun _ x _ => (intOf x).toNat)
    case atStart => exact ⟨r, 0, [], n, rfl, rfl, Lib.hid (by simp), by omega, B3, hr3, T3, by omega, hgl⟩
    case round =>
      obtain ⟨r', cap, l, m, rfl, rfl, HL, hm, hBy, hrr, TT, hr', hrg⟩ := hrel
      have hlen : l.length ≤ 40 := by have := HL.out; omega
      by_cases m0 : m = 0
      · subst m0
        have cv := bytes_conv hBy.out
        go_wp2_with fail
        go_ret
        exact ⟨strB l, by rw [strB_size]; omega, rfl, hrr.le (by omega), TT⟩
      · have m0' : (0 : Int) < m := by omega
        go_wp2_with fail
        refine (pick_calls g (B + 2 + l.length) 256 wr hrr (by omega) (by omega) (by omega)).mono ?_
        rintro e w4 ⟨x, hx, rfl, hr4, T4⟩
        have hBy4 := (hBy.kp T4.kp (by simp; omega)).out
        have hu8 : IntKind.u8.wrap (x : Int) = (x : Int) := wr_u8 _ (by omega) (by omega)
        go_wp2_with (at_builtin; go_must (refine wpList_byte (x := x) rfl _ _ rfl rfl hBy4 rfl (by omega) ?_); intro r6 cap6 w6 hby6 hr6 hrl6 K6 hc1 hc2)
        go_roundw
        case rel =>
          have hz1 := TT.size
          have hz4 := T4.size
          have hgl4 := hr4.lt
          refine ⟨r6, cap6, l ++ [x], m - 1, by rw [List.length_append]; rfl, by go_num, Lib.hid (by have := HL.out; rw [List.length_append, List.length_singleton]; omega), by omega, ⟨?_⟩, ?_, But.ofKp ((TT.trans T4).kp.trans K6 (fun y hy => by simp at hy ⊢; omega)), by omega, by omega⟩
          · rw [List.length_append]; exact hby6
          · rw [List.length_append]; exact (hr4.kp K6 (by simpa using hrg)).le (by simp; omega)
        case measure => simp [intOf]; omega
  by_cases h3 : k = 3
  · subst h3
    go_wp2_with fail
    refine (many_calls _ 300 w1 (by decide) (by omega)).mono ?_
    rintro e w4 ⟨o, ho, rfl, O4⟩
    go_wp2_with fail
    go_ret
    exact ⟨o, ho, rfl, (hr1.on O4).le (by omega), T.trans (But.of O4)⟩
  · have k0 : ((k : Int) == 0) = false := by simp; omega
    have k1 : ((k : Int) == 1) = false := by simp; omega
    have k2 : ((k : Int) == 2) = false := by simp; omega
    have k3 : ((k : Int) == 3) = false := by simp; omega
    go_wp2_with fail
    refine (pick_calls g (B + 1) 12 w1 hr1 (by omega) (by omega) (by omega)).mono ?_
    rintro e w3 ⟨n, hn, rfl, hr3, T3⟩
    replace T3 := T.trans T3
    go_wp2_with fail
    go_loopw [5, 6] (fun o x wr => ∃ (s : ByteArray) (m : Nat), o = .string s ∧ x = .int .i64 (m : Int) ∧ m ≤ n ∧ s.size ≤ 6 * (n - m) ∧ Rd wr g (B + 2 + (n - m)) ∧ But g w wr) (fun _ x _ => (intOf x).toNat)
    case atStart => exact ⟨⟨#[]⟩, n, rfl, rfl, by omega, Nat.zero_le _, hr3.le (by omega), T3⟩
    case round =>
      obtain ⟨s, m, rfl, rfl, hm, hs, hrr, TT⟩ := hrel
      by_cases m0 : m = 0
      · subst m0
        go_wp2_with fail
        go_ret
        exact ⟨s, by omega, rfl, hrr.le (by omega), TT⟩
      · have m0' : (0 : Int) < m := by omega
        go_wp2_with fail
        refine (of_calls g _ wr.heap.size 7 7 _ _ (hrr.on ((On.refl wr).alloc _)) (by omega) (Row.of (Blk.new wr _ _)) rfl (by omega) (by omega) (by omega) (Nat.ne_of_gt hrr.lt)).mono ?_
        rintro e w4 ⟨v, hv, rfl, hr4, T4⟩
        replace T4 := TT.trans ((But.of (g := g) ((On.refl wr).alloc _)).trans T4)
        have hs4 : ∃ s : ByteArray, s.size ≤ 6 ∧ v = .string s := by
          simp at hv
          rcases hv with rfl | rfl | rfl | rfl | rfl | rfl | rfl <;> exact ⟨_, by decide, rfl⟩
        obtain ⟨y, hy, rfl⟩ := hs4
        clear hv
        have st : (s ++ y).size = s.size + y.size := ByteArray.size_append
        have ST := Lib.hid st
        clear st
        have s3 : s.size ≤ 1000 := by omega
        go_wp2_with fail
        go_roundw
        case rel =>
          refine ⟨s ++ y, m - 1, rfl, ?_, by omega, by rw [ST.out]; omega, hr4.le (by omega), T4⟩
          go_num
        case measure => simp [intOf]; omega
set_option maxRecDepth 100000 in
theorem anytext_calls (g B : Nat) (w : World) (hr : Rd w g B) (hB : B ≤ 10000000) :
    Calls Tryz.prog 73 #[.pointer (some ⟨g, 0, none⟩)] w fun e w' => ∃ s : ByteArray, s.size ≤ 1000000 ∧ e = .returned (.string s) ∧ Rd w' g (B + 60) ∧ But g w w' := by
  go_enter Tryz.func73, Tryz.ntmps73
  go_wp2_with fail
  refine (pick_calls g B 16 w hr (by omega) (by omega) (by omega)).mono ?_
  rintro e w1 ⟨k, hk, rfl, hr1, T⟩
  by_cases h0 : k = 0
  · subst h0
    go_wp2_with fail
    refine (many_calls _ 301 w1 (by decide) (by omega)).mono ?_
    rintro e w4 ⟨o, ho, rfl, O4⟩
    go_wp2_with fail
    go_ret
    exact ⟨o, Nat.le_trans ho (by decide), rfl, (hr1.on O4).le (by omega), T.trans (But.of O4)⟩
  · have k0 : ((k : Int) == 0) = false := by simp; omega
    go_wp2_with fail
    refine (text_calls g (B + 1) w1 hr1 (by omega)).mono ?_
    rintro e w2 ⟨s, hs, rfl, hr2, T2⟩
    go_wp2_with fail
    go_ret
    exact ⟨s, by omega, rfl, hr2.le (by omega), T.trans T2⟩
end Go.Proofs.YtnadjlejlohgiaaGreatDoor.Draw

/- The draws of names: some text of at most twenty bytes. -/
namespace Go.Proofs.YtnadjlejlohgiaaGreatDoor.Draw
open Go.RowKit Go.Proofs.YtnadjlejlohgiaaGreatDoor.Mem
set_option linter.unusedVariables false
set_option linter.unusedSimpArgs false
/-- No file that is drawn is named so. -/
def nobody : ByteArray := ⟨#[110, 111, 98, 111, 100, 121]⟩
set_option maxRecDepth 100000 in
theorem name_nob (g B : Nat) (w : World) (hr : Rd w g B) (hB : B ≤ 1000000000) :
    Calls Tryz.prog 44 #[.pointer (some ⟨g, 0, none⟩)] w fun e w' => ∃ s : ByteArray, (s.size ≤ 20 ∧ s ≠ nobody) ∧ e = .returned (.string s) ∧ Rd w' g (B + 1) ∧ But g w w' := by
  go_enter Tryz.func44, Tryz.ntmps44
  go_wp2_with fail
  refine (of_calls g B w.heap.size 7 7 _ _ (hr.on ((On.refl w).alloc _)) hB (Row.of (Blk.new w _ _)) rfl (by omega) (by omega) (by omega) (Nat.ne_of_gt hr.lt)).mono ?_
  rintro e w1 ⟨v, hv, rfl, hr1, T⟩
  replace T := (But.of (g := g) ((On.refl w).alloc _)).trans T
  have hs : ∃ s : ByteArray, (s.size ≤ 20 ∧ s ≠ nobody) ∧ v = .string s := by
    simp at hv
    rcases hv with rfl | rfl | rfl | rfl | rfl | rfl | rfl <;> exact ⟨_, ⟨by decide, by decide⟩, rfl⟩
  obtain ⟨s, hs, rfl⟩ := hs
  clear hv
  go_wp2_with fail
  go_ret
  exact ⟨s, hs, rfl, hr1, T⟩
theorem name_calls (g B : Nat) (w : World) (hr : Rd w g B) (hB : B ≤ 1000000000) :
    Calls Tryz.prog 44 #[.pointer (some ⟨g, 0, none⟩)] w fun e w' => ∃ s : ByteArray, s.size ≤ 20 ∧ e = .returned (.string s) ∧ Rd w' g (B + 1) ∧ But g w w' :=
  (name_nob g B w hr hB).mono fun _ _ ⟨s, h, r⟩ => ⟨s, h.1, r⟩
set_option maxRecDepth 100000 in
theorem anyname_calls (g B : Nat) (w : World) (hr : Rd w g B) (hB : B ≤ 100000000) :
    Calls Tryz.prog 71 #[.pointer (some ⟨g, 0, none⟩)] w fun e w' => ∃ s : ByteArray, s.size ≤ 20 ∧ e = .returned (.string s) ∧ Rd w' g (B + 2) ∧ But g w w' := by
  go_enter Tryz.func71, Tryz.ntmps71
  go_wp2_with fail
  refine (pick_calls g B 6 w hr (by omega) (by omega) (by omega)).mono ?_
  rintro e w1 ⟨k, hk, rfl, hr1, T⟩
  by_cases h0 : k = 0
  · have h0' : ((k : Int) == 0) = true := by simp [h0]
    go_wp2_with fail
    refine (of_calls g (B + 1) w1.heap.size 9 9 _ _ (hr1.on ((On.refl w1).alloc _)) (by omega) (Row.of (Blk.new w1 _ _)) rfl (by omega) (by omega) (by omega) (Nat.ne_of_gt hr1.lt)).mono ?_
    rintro e w2 ⟨v, hv, rfl, hr2, T2⟩
    replace T := T.trans ((But.of (g := g) ((On.refl w1).alloc _)).trans T2)
    have hs : ∃ s : ByteArray, s.size ≤ 20 ∧ v = .string s := by
      simp at hv
      rcases hv with rfl | rfl | rfl | rfl | rfl | rfl | rfl | rfl | rfl <;> exact ⟨_, by decide, rfl⟩
    obtain ⟨s, hs, rfl⟩ := hs
    clear hv
    go_wp2_with fail
    go_ret
    exact ⟨s, hs, rfl, hr2, T⟩
  · have h0' : ((k : Int) == 0) = false := by simp; omega
    go_wp2_with fail
    refine (name_calls g (B + 1) w1 hr1 (by omega)).mono ?_
    rintro e w2 ⟨s, hs, rfl, hr2, T2⟩
    replace T := T.trans T2
    go_wp2_with fail
    go_ret
    exact ⟨s, hs, rfl, hr2, T⟩
end Go.Proofs.YtnadjlejlohgiaaGreatDoor.Draw

/- The draws of files: some name, some six numbers, some text, not long ones. -/
namespace Go.Proofs.YtnadjlejlohgiaaGreatDoor.Draw
open Go.RowKit Go.Proofs.YtnadjlejlohgiaaGreatDoor.Mem Go.Proofs.YtnadjlejlohgiaaGreatDoor.Wi
set_option linter.unusedVariables false
set_option linter.unusedSimpArgs false
/-- Six numbers, eight cells. -/
def stv (y m d h mi s : Int) : Array Value := #[.int .i64 y, .int .i64 m, .int .i64 d, .int .i64 h, .int .i64 mi, .int .i64 s]
def env (nm : ByteArray) (y m d h mi s : Int) (tx : ByteArray) : Array Value := #[.string nm, .int .i64 y, .int .i64 m, .int .i64 d, .int .i64 h, .int .i64 mi, .int .i64 s, .string tx]
theorem But.setB {g : Nat} {w w' : World} (h : But g w w') {p : Addr} (hp : w.heap.size ≤ p.block) (u : Value) : But g w (w'.setCell p u) := But.ofKp (h.kp.set (.inr hp) u)
theorem Rd.set {w : World} {g B : Nat} (h : Rd w g B) {p : Addr} (hp : g < p.block) (u : Value) : Rd (w.setCell p u) g B := h.kp ((Kp.refl [p.block] w).set (.inl (by simp)) u) (fun y hy => by simp at hy; omega)
theorem st_ok {y : Int} {m d h mi s : Nat} (hy : y = 1980 ∨ y = 2000 ∨ y = 2024 ∨ y = 2107) (hm : m < 12) (hd : d < 28) (hh : h < 24) (hmi : mi < 60) (hs : s < 30) : Nm.okp y (1 + (m : Int)) (1 + (d : Int)) h mi (2 * (s : Int)) := by
  have hdd : 28 ≤ Nm.dd y (1 + (m : Int)) := by
    unfold Nm.dd
    repeat' split
    all_goals omega
  refine ⟨by omega, by omega, by omega, by omega, by omega, by omega, ?_⟩
  rw [Int.tmod_eq_emod_of_nonneg (by omega)]
  omega
set_option maxRecDepth 100000 in
set_option maxHeartbeats 1000000 in
theorem stamp_ok (g B : Nat) (w : World) (hr : Rd w g B) (hB : B ≤ 100000000) :
    Calls Tryz.prog 97 #[.pointer (some ⟨g, 0, none⟩)] w fun e w' => ∃ y m d h mi s : Int, e = .returned (.agg (stv y m d h mi s)) ∧ Rd w' g (B + 6) ∧ But g w w' ∧ Nm.okp y m d h mi s := by
  go_enter Tryz.func97, Tryz.ntmps97
  go_upto_region 1 with fail
  have B0 := Blk.new w 40 #[.int .i64 0, .int .i64 0, .int .i64 0, .int .i64 0, .int .i64 0, .int .i64 0]
  have O0 := (On.refl w).alloc (.cells #[.int .i64 0, .int .i64 0, .int .i64 0, .int .i64 0, .int .i64 0, .int .i64 0] 40)
  have hr0 := hr.on O0
  have T0 := But.of (g := g) O0
  generalize hR : w.heap.size = R at *
  have hgR : g ≠ R := by have := hr.lt; omega
  have hRw : w.heap.size ≤ R := by omega
  generalize w.alloc (.cells #[.int .i64 0, .int .i64 0, .int .i64 0, .int .i64 0, .int .i64 0, .int .i64 0] 40) = w0 at *
  go_wp2_with fail
  refine (one_calls g B w0.heap.size 4 4 _ _ (hr0.on ((On.refl w0).alloc _)) (by omega) (Row.of (Blk.new w0 _ _)) rfl (by omega) (by omega) (by omega) (Nat.ne_of_gt hr0.lt)).mono ?_
  rintro e w1 ⟨v, hv, rfl, hr1, T1⟩
  have B1 := T1.blk (B0.alloc _) (Ne.symm hgR)
  replace T1 := T0.trans ((But.of (g := g) ((On.refl w0).alloc _)).trans T1)
  obtain ⟨y, hy, rfl⟩ : ∃ y : Int, (y = 1980 ∨ y = 2000 ∨ y = 2024 ∨ y = 2107) ∧ v = .int .i64 y := by
    simp at hv
    rcases hv with rfl | rfl | rfl | rfl <;> exact ⟨_, by simp, rfl⟩
  have HY := Lib.hid hy
  clear hv hy
  go_wp2_with fail
  refine (pick_calls g (B + 1) 12 w1 hr1 (by omega) (by omega) (by omega)).mono ?_
  rintro e w2 ⟨m, hm, rfl, hr2, T2⟩
  have B2 := T2.blk B1 (Ne.symm hgR)
  replace T2 := T1.trans T2
  have em : IntKind.i64.wrap (1 + (m : Int)) = 1 + (m : Int) := by rw [IntKind.wrap_i64]; omega
  go_wp2_with fail
  refine (pick_calls g (B + 2) 28 w2 hr2 (by omega) (by omega) (by omega)).mono ?_
  rintro e w3 ⟨d, hd, rfl, hr3, T3⟩
  have B3 := T3.blk B2 (Ne.symm hgR)
  replace T3 := T2.trans T3
  have ed : IntKind.i64.wrap (1 + (d : Int)) = 1 + (d : Int) := by rw [IntKind.wrap_i64]; omega
  go_wp2_with fail
  refine (pick_calls g (B + 3) 24 w3 hr3 (by omega) (by omega) (by omega)).mono ?_
  rintro e w4 ⟨h, hh, rfl, hr4, T4⟩
  have B4 := T4.blk B3 (Ne.symm hgR)
  replace T4 := T3.trans T4
  go_wp2_with fail
  refine (pick_calls g (B + 4) 60 w4 hr4 (by omega) (by omega) (by omega)).mono ?_
  rintro e w5 ⟨mi, hmi, rfl, hr5, T5⟩
  have B5 := T5.blk B4 (Ne.symm hgR)
  replace T5 := T4.trans T5
  go_wp2_with fail
  refine (pick_calls g (B + 5) 30 w5 hr5 (by omega) (by omega) (by omega)).mono ?_
  rintro e w6 ⟨s, hs, rfl, hr6, T6⟩
  have B6 := T6.blk B5 (Ne.symm hgR)
  replace T6 := T5.trans T6
  have es : IntKind.i64.wrap (2 * (s : Int)) = 2 * (s : Int) := by rw [IntKind.wrap_i64]; omega
  have r0 : w6.cell? ⟨R, 0, none⟩ = some (.int .i64 0) := (B6.cell 0).trans rfl
  have r1 : w6.cell? ⟨R, 1, none⟩ = some (.int .i64 0) := (B6.cell 1).trans rfl
  have r2 : w6.cell? ⟨R, 2, none⟩ = some (.int .i64 0) := (B6.cell 2).trans rfl
  have r3 : w6.cell? ⟨R, 3, none⟩ = some (.int .i64 0) := (B6.cell 3).trans rfl
  have r4 : w6.cell? ⟨R, 4, none⟩ = some (.int .i64 0) := (B6.cell 4).trans rfl
  have r5 : w6.cell? ⟨R, 5, none⟩ = some (.int .i64 0) := (B6.cell 5).trans rfl
  have fr : ∀ i, w6.frozen? ⟨R, i, none⟩ = false := B6.frozen
  go_wp2_with fail
  have BF := ((((((B6.set 0 (.int .i64 y)).set 1 (.int .i64 (1 + (m : Int)))).set 2 (.int .i64 (1 + (d : Int)))).set 3 (.int .i64 (h : Int))).set 4 (.int .i64 (mi : Int))).set 5 (.int .i64 (2 * (s : Int))))
  have TF := ((((((T6.setB (p := ⟨R, 0, none⟩) hRw (.int .i64 y)).setB (p := ⟨R, 1, none⟩) hRw (.int .i64 (1 + (m : Int)))).setB (p := ⟨R, 2, none⟩) hRw (.int .i64 (1 + (d : Int)))).setB (p := ⟨R, 3, none⟩) hRw (.int .i64 (h : Int))).setB (p := ⟨R, 4, none⟩) hRw (.int .i64 (mi : Int))).setB (p := ⟨R, 5, none⟩) hRw (.int .i64 (2 * (s : Int))))
  have HF := ((((((hr6.set (p := ⟨R, 0, none⟩) (show g < R by have := hr.lt; omega) (.int .i64 y)).set (p := ⟨R, 1, none⟩) (show g < R by have := hr.lt; omega) (.int .i64 (1 + (m : Int)))).set (p := ⟨R, 2, none⟩) (show g < R by have := hr.lt; omega) (.int .i64 (1 + (d : Int)))).set (p := ⟨R, 3, none⟩) (show g < R by have := hr.lt; omega) (.int .i64 (h : Int))).set (p := ⟨R, 4, none⟩) (show g < R by have := hr.lt; omega) (.int .i64 (mi : Int))).set (p := ⟨R, 5, none⟩) (show g < R by have := hr.lt; omega) (.int .i64 (2 * (s : Int))))
  simp only [List.setIfInBounds_toArray, List.set_cons_zero, List.set_cons_succ] at BF
  exact bodyPost_ret (v := .agg (stv y (1 + (m : Int)) (1 + (d : Int)) (h : Int) (mi : Int) (2 * (s : Int)))) (by exact res_c (fn := Tryz.f97) (p := 2) rfl BF rfl Tryz.underlying40 rfl (by kernel_rfl)) rfl ⟨y, (1 + (m : Int)), (1 + (d : Int)), (h : Int), (mi : Int), (2 * (s : Int)), rfl, HF.le (by omega), TF, st_ok HY.out hm hd hh hmi hs⟩
theorem stamp_calls (g B : Nat) (w : World) (hr : Rd w g B) (hB : B ≤ 100000000) :
    Calls Tryz.prog 97 #[.pointer (some ⟨g, 0, none⟩)] w fun e w' => ∃ y m d h mi s : Int, e = .returned (.agg (stv y m d h mi s)) ∧ Rd w' g (B + 6) ∧ But g w w' :=
  (stamp_ok g B w hr hB).mono fun _ _ ⟨y, m, d, h, mi, s, e, r, t, _⟩ => ⟨y, m, d, h, mi, s, e, r, t⟩
set_option maxRecDepth 100000 in
set_option maxHeartbeats 2000000 in
theorem anystamp_calls (g B : Nat) (w : World) (hr : Rd w g B) (hB : B ≤ 10000000) :
    Calls Tryz.prog 72 #[.pointer (some ⟨g, 0, none⟩)] w fun e w' => ∃ y m d h mi s : Int, e = .returned (.agg (stv y m d h mi s)) ∧ Rd w' g (B + 10) ∧ But g w w' := by
  go_enter Tryz.func72, Tryz.ntmps72
  go_upto_region 1 with fail
  have B0 := Blk.new w 40 #[.int .i64 0, .int .i64 0, .int .i64 0, .int .i64 0, .int .i64 0, .int .i64 0]
  have O0 := (On.refl w).alloc (.cells #[.int .i64 0, .int .i64 0, .int .i64 0, .int .i64 0, .int .i64 0, .int .i64 0] 40)
  have hr0 := hr.on O0
  have T0 := But.of (g := g) O0
  generalize hR : w.heap.size = R at *
  have hgR : g ≠ R := by have := hr.lt; omega
  have hRw : w.heap.size ≤ R := by omega
  generalize w.alloc (.cells #[.int .i64 0, .int .i64 0, .int .i64 0, .int .i64 0, .int .i64 0, .int .i64 0] 40) = w0 at *
  have hgRl : g < R := by have := hr.lt; omega
  go_wp2_with fail
  refine (stamp_calls g B w0 hr0 (by omega)).mono ?_
  rintro e w1 ⟨y, m, d, h, mi, s, rfl, hr1, T1⟩
  unfold stv
  have B1 := T1.blk B0 (Ne.symm hgR)
  replace T1 := T0.trans T1
  have O1 := (On.refl w1).alloc (.cells #[.int .i64 y, .int .i64 m, .int .i64 d, .int .i64 h, .int .i64 mi, .int .i64 s] 40)
  have L1 := Blk.new w1 40 #[.int .i64 y, .int .i64 m, .int .i64 d, .int .i64 h, .int .i64 mi, .int .i64 s]
  have hz1 := T1.size
  have hB1l := B1.lt
  go_wp2_with fail
  generalize hL : w1.heap.size = L at *
  have hgL : g < L := by have := hr1.lt; omega
  have hLR : R ≠ L := by omega
  have hLw : w.heap.size ≤ L := by omega
  have hr2 := hr1.on O1
  have B2 := B1.alloc (.cells #[.int .i64 y, .int .i64 m, .int .i64 d, .int .i64 h, .int .i64 mi, .int .i64 s] 40)
  have T2 := T1.trans (But.of (g := g) O1)
  generalize w1.alloc (.cells #[.int .i64 y, .int .i64 m, .int .i64 d, .int .i64 h, .int .i64 mi, .int .i64 s] 40) = w2 at *
  refine (pick_calls g (B + 6) 10 w2 hr2 (by omega) (by omega) (by omega)).mono ?_
  rintro e w3 ⟨k, hk, rfl, hr3, T3⟩
  have B3 := T3.blk B2 (Ne.symm hgR)
  have L3 := T3.blk L1 (by omega)
  replace T3 := T2.trans T3
  by_cases h0 : k = 0
  · subst h0
    go_wp2_with fail
    refine (one_calls g (B + 7) w3.heap.size 5 5 _ _ (hr3.on ((On.refl w3).alloc _)) (by omega) (Row.of (Blk.new w3 _ _)) rfl (by omega) (by omega) (by omega) (Nat.ne_of_gt hr3.lt)).mono ?_
    rintro e w4 ⟨v, hv, rfl, hr4, T4⟩
    have B4 := T4.blk (B3.alloc _) (Ne.symm hgR)
    have L4 := T4.blk (L3.alloc _) (by omega)
    replace T4 := T3.trans ((But.of (g := g) ((On.refl w3).alloc _)).trans T4)
    obtain ⟨z, rfl⟩ : ∃ z : Int, v = .int .i64 z := by
      simp at hv
      rcases hv with rfl | rfl | rfl | rfl | rfl <;> exact ⟨_, rfl⟩
    clear hv
    have c0 : w4.cell? ⟨L, 2, none⟩ = some (.int .i64 d) := (L4.cell 2).trans rfl
    have fl : w4.frozen? ⟨L, 2, none⟩ = false := L4.frozen _
    go_upto_region 11 with fail
    replace B4 := B4.far (p := ⟨L, 2, none⟩) hLR (.int .i64 z)
    replace L4 := L4.set 2 (.int .i64 z)
    simp only [List.setIfInBounds_toArray, List.set_cons_zero, List.set_cons_succ] at L4
    replace T4 := T4.setB (p := ⟨L, 2, none⟩) hLw (.int .i64 z)
    replace hr4 := hr4.set (p := ⟨L, 2, none⟩) hgL (.int .i64 z)
    generalize w4.setCell ⟨L, 2, none⟩ (.int .i64 z) = w5 at *
    clear c0 fl
    have l0 : w5.cell? ⟨L, 0, none⟩ = some (.int .i64 y) := (L4.cell 0).trans rfl
    have l1 : w5.cell? ⟨L, 1, none⟩ = some (.int .i64 m) := (L4.cell 1).trans rfl
    have l2 : w5.cell? ⟨L, 2, none⟩ = some (.int .i64 z) := (L4.cell 2).trans rfl
    have l3 : w5.cell? ⟨L, 3, none⟩ = some (.int .i64 h) := (L4.cell 3).trans rfl
    have l4 : w5.cell? ⟨L, 4, none⟩ = some (.int .i64 mi) := (L4.cell 4).trans rfl
    have l5 : w5.cell? ⟨L, 5, none⟩ = some (.int .i64 s) := (L4.cell 5).trans rfl
    have r0 : w5.cell? ⟨R, 0, none⟩ = some (.int .i64 0) := (B4.cell 0).trans rfl
    have r1 : w5.cell? ⟨R, 1, none⟩ = some (.int .i64 0) := (B4.cell 1).trans rfl
    have r2 : w5.cell? ⟨R, 2, none⟩ = some (.int .i64 0) := (B4.cell 2).trans rfl
    have r3 : w5.cell? ⟨R, 3, none⟩ = some (.int .i64 0) := (B4.cell 3).trans rfl
    have r4 : w5.cell? ⟨R, 4, none⟩ = some (.int .i64 0) := (B4.cell 4).trans rfl
    have r5 : w5.cell? ⟨R, 5, none⟩ = some (.int .i64 0) := (B4.cell 5).trans rfl
    have fr : ∀ i, w5.frozen? ⟨R, i, none⟩ = false := B4.frozen
    go_wp2_with fail
    have BF := ((((((B4.set 0 (.int .i64 y)).set 1 (.int .i64 m)).set 2 (.int .i64 z)).set 3 (.int .i64 h)).set 4 (.int .i64 mi)).set 5 (.int .i64 s))
    have TF := ((((((T4.setB (p := ⟨R, 0, none⟩) hRw (.int .i64 y)).setB (p := ⟨R, 1, none⟩) hRw (.int .i64 m)).setB (p := ⟨R, 2, none⟩) hRw (.int .i64 z)).setB (p := ⟨R, 3, none⟩) hRw (.int .i64 h)).setB (p := ⟨R, 4, none⟩) hRw (.int .i64 mi)).setB (p := ⟨R, 5, none⟩) hRw (.int .i64 s))
    have HF := ((((((hr4.set (p := ⟨R, 0, none⟩) hgRl (.int .i64 y)).set (p := ⟨R, 1, none⟩) hgRl (.int .i64 m)).set (p := ⟨R, 2, none⟩) hgRl (.int .i64 z)).set (p := ⟨R, 3, none⟩) hgRl (.int .i64 h)).set (p := ⟨R, 4, none⟩) hgRl (.int .i64 mi)).set (p := ⟨R, 5, none⟩) hgRl (.int .i64 s))
    simp only [List.setIfInBounds_toArray, List.set_cons_zero, List.set_cons_succ] at BF
    exact bodyPost_ret (v := .agg #[.int .i64 y, .int .i64 m, .int .i64 z, .int .i64 h, .int .i64 mi, .int .i64 s]) (by exact res_c (fn := Tryz.f72) (p := 2) rfl BF rfl Tryz.underlying40 rfl (by kernel_rfl)) rfl ⟨y, m, z, h, mi, s, rfl, HF.le (by omega), TF⟩
  by_cases h1 : k = 1
  · subst h1
    go_wp2_with fail
    refine (one_calls g (B + 7) w3.heap.size 4 4 _ _ (hr3.on ((On.refl w3).alloc _)) (by omega) (Row.of (Blk.new w3 _ _)) rfl (by omega) (by omega) (by omega) (Nat.ne_of_gt hr3.lt)).mono ?_
    rintro e w4 ⟨v, hv, rfl, hr4, T4⟩
    have B4 := T4.blk (B3.alloc _) (Ne.symm hgR)
    have L4 := T4.blk (L3.alloc _) (by omega)
    replace T4 := T3.trans ((But.of (g := g) ((On.refl w3).alloc _)).trans T4)
    obtain ⟨z, rfl⟩ : ∃ z : Int, v = .int .i64 z := by
      simp at hv
      rcases hv with rfl | rfl | rfl | rfl <;> exact ⟨_, rfl⟩
    clear hv
    have c0 : w4.cell? ⟨L, 0, none⟩ = some (.int .i64 y) := (L4.cell 0).trans rfl
    have fl : w4.frozen? ⟨L, 0, none⟩ = false := L4.frozen _
    go_upto_region 11 with fail
    replace B4 := B4.far (p := ⟨L, 0, none⟩) hLR (.int .i64 z)
    replace L4 := L4.set 0 (.int .i64 z)
    simp only [List.setIfInBounds_toArray, List.set_cons_zero, List.set_cons_succ] at L4
    replace T4 := T4.setB (p := ⟨L, 0, none⟩) hLw (.int .i64 z)
    replace hr4 := hr4.set (p := ⟨L, 0, none⟩) hgL (.int .i64 z)
    generalize w4.setCell ⟨L, 0, none⟩ (.int .i64 z) = w5 at *
    clear c0 fl
    have l0 : w5.cell? ⟨L, 0, none⟩ = some (.int .i64 z) := (L4.cell 0).trans rfl
    have l1 : w5.cell? ⟨L, 1, none⟩ = some (.int .i64 m) := (L4.cell 1).trans rfl
    have l2 : w5.cell? ⟨L, 2, none⟩ = some (.int .i64 d) := (L4.cell 2).trans rfl
    have l3 : w5.cell? ⟨L, 3, none⟩ = some (.int .i64 h) := (L4.cell 3).trans rfl
    have l4 : w5.cell? ⟨L, 4, none⟩ = some (.int .i64 mi) := (L4.cell 4).trans rfl
    have l5 : w5.cell? ⟨L, 5, none⟩ = some (.int .i64 s) := (L4.cell 5).trans rfl
    have r0 : w5.cell? ⟨R, 0, none⟩ = some (.int .i64 0) := (B4.cell 0).trans rfl
    have r1 : w5.cell? ⟨R, 1, none⟩ = some (.int .i64 0) := (B4.cell 1).trans rfl
    have r2 : w5.cell? ⟨R, 2, none⟩ = some (.int .i64 0) := (B4.cell 2).trans rfl
    have r3 : w5.cell? ⟨R, 3, none⟩ = some (.int .i64 0) := (B4.cell 3).trans rfl
    have r4 : w5.cell? ⟨R, 4, none⟩ = some (.int .i64 0) := (B4.cell 4).trans rfl
    have r5 : w5.cell? ⟨R, 5, none⟩ = some (.int .i64 0) := (B4.cell 5).trans rfl
    have fr : ∀ i, w5.frozen? ⟨R, i, none⟩ = false := B4.frozen
    go_wp2_with fail
    have BF := ((((((B4.set 0 (.int .i64 z)).set 1 (.int .i64 m)).set 2 (.int .i64 d)).set 3 (.int .i64 h)).set 4 (.int .i64 mi)).set 5 (.int .i64 s))
    have TF := ((((((T4.setB (p := ⟨R, 0, none⟩) hRw (.int .i64 z)).setB (p := ⟨R, 1, none⟩) hRw (.int .i64 m)).setB (p := ⟨R, 2, none⟩) hRw (.int .i64 d)).setB (p := ⟨R, 3, none⟩) hRw (.int .i64 h)).setB (p := ⟨R, 4, none⟩) hRw (.int .i64 mi)).setB (p := ⟨R, 5, none⟩) hRw (.int .i64 s))
    have HF := ((((((hr4.set (p := ⟨R, 0, none⟩) hgRl (.int .i64 z)).set (p := ⟨R, 1, none⟩) hgRl (.int .i64 m)).set (p := ⟨R, 2, none⟩) hgRl (.int .i64 d)).set (p := ⟨R, 3, none⟩) hgRl (.int .i64 h)).set (p := ⟨R, 4, none⟩) hgRl (.int .i64 mi)).set (p := ⟨R, 5, none⟩) hgRl (.int .i64 s))
    simp only [List.setIfInBounds_toArray, List.set_cons_zero, List.set_cons_succ] at BF
    exact bodyPost_ret (v := .agg #[.int .i64 z, .int .i64 m, .int .i64 d, .int .i64 h, .int .i64 mi, .int .i64 s]) (by exact res_c (fn := Tryz.f72) (p := 2) rfl BF rfl Tryz.underlying40 rfl (by kernel_rfl)) rfl ⟨z, m, d, h, mi, s, rfl, HF.le (by omega), TF⟩
  by_cases h2 : k = 2
  · subst h2
    go_wp2_with fail
    refine (one_calls g (B + 7) w3.heap.size 4 4 _ _ (hr3.on ((On.refl w3).alloc _)) (by omega) (Row.of (Blk.new w3 _ _)) rfl (by omega) (by omega) (by omega) (Nat.ne_of_gt hr3.lt)).mono ?_
    rintro e w4 ⟨v, hv, rfl, hr4, T4⟩
    have B4 := T4.blk (B3.alloc _) (Ne.symm hgR)
    have L4 := T4.blk (L3.alloc _) (by omega)
    replace T4 := T3.trans ((But.of (g := g) ((On.refl w3).alloc _)).trans T4)
    obtain ⟨z, rfl⟩ : ∃ z : Int, v = .int .i64 z := by
      simp at hv
      rcases hv with rfl | rfl | rfl | rfl <;> exact ⟨_, rfl⟩
    clear hv
    have c0 : w4.cell? ⟨L, 5, none⟩ = some (.int .i64 s) := (L4.cell 5).trans rfl
    have fl : w4.frozen? ⟨L, 5, none⟩ = false := L4.frozen _
    go_upto_region 11 with fail
    replace B4 := B4.far (p := ⟨L, 5, none⟩) hLR (.int .i64 z)
    replace L4 := L4.set 5 (.int .i64 z)
    simp only [List.setIfInBounds_toArray, List.set_cons_zero, List.set_cons_succ] at L4
    replace T4 := T4.setB (p := ⟨L, 5, none⟩) hLw (.int .i64 z)
    replace hr4 := hr4.set (p := ⟨L, 5, none⟩) hgL (.int .i64 z)
    generalize w4.setCell ⟨L, 5, none⟩ (.int .i64 z) = w5 at *
    clear c0 fl
    have l0 : w5.cell? ⟨L, 0, none⟩ = some (.int .i64 y) := (L4.cell 0).trans rfl
    have l1 : w5.cell? ⟨L, 1, none⟩ = some (.int .i64 m) := (L4.cell 1).trans rfl
    have l2 : w5.cell? ⟨L, 2, none⟩ = some (.int .i64 d) := (L4.cell 2).trans rfl
    have l3 : w5.cell? ⟨L, 3, none⟩ = some (.int .i64 h) := (L4.cell 3).trans rfl
    have l4 : w5.cell? ⟨L, 4, none⟩ = some (.int .i64 mi) := (L4.cell 4).trans rfl
    have l5 : w5.cell? ⟨L, 5, none⟩ = some (.int .i64 z) := (L4.cell 5).trans rfl
    have r0 : w5.cell? ⟨R, 0, none⟩ = some (.int .i64 0) := (B4.cell 0).trans rfl
    have r1 : w5.cell? ⟨R, 1, none⟩ = some (.int .i64 0) := (B4.cell 1).trans rfl
    have r2 : w5.cell? ⟨R, 2, none⟩ = some (.int .i64 0) := (B4.cell 2).trans rfl
    have r3 : w5.cell? ⟨R, 3, none⟩ = some (.int .i64 0) := (B4.cell 3).trans rfl
    have r4 : w5.cell? ⟨R, 4, none⟩ = some (.int .i64 0) := (B4.cell 4).trans rfl
    have r5 : w5.cell? ⟨R, 5, none⟩ = some (.int .i64 0) := (B4.cell 5).trans rfl
    have fr : ∀ i, w5.frozen? ⟨R, i, none⟩ = false := B4.frozen
    go_wp2_with fail
    have BF := ((((((B4.set 0 (.int .i64 y)).set 1 (.int .i64 m)).set 2 (.int .i64 d)).set 3 (.int .i64 h)).set 4 (.int .i64 mi)).set 5 (.int .i64 z))
    have TF := ((((((T4.setB (p := ⟨R, 0, none⟩) hRw (.int .i64 y)).setB (p := ⟨R, 1, none⟩) hRw (.int .i64 m)).setB (p := ⟨R, 2, none⟩) hRw (.int .i64 d)).setB (p := ⟨R, 3, none⟩) hRw (.int .i64 h)).setB (p := ⟨R, 4, none⟩) hRw (.int .i64 mi)).setB (p := ⟨R, 5, none⟩) hRw (.int .i64 z))
    have HF := ((((((hr4.set (p := ⟨R, 0, none⟩) hgRl (.int .i64 y)).set (p := ⟨R, 1, none⟩) hgRl (.int .i64 m)).set (p := ⟨R, 2, none⟩) hgRl (.int .i64 d)).set (p := ⟨R, 3, none⟩) hgRl (.int .i64 h)).set (p := ⟨R, 4, none⟩) hgRl (.int .i64 mi)).set (p := ⟨R, 5, none⟩) hgRl (.int .i64 z))
    simp only [List.setIfInBounds_toArray, List.set_cons_zero, List.set_cons_succ] at BF
    exact bodyPost_ret (v := .agg #[.int .i64 y, .int .i64 m, .int .i64 d, .int .i64 h, .int .i64 mi, .int .i64 z]) (by exact res_c (fn := Tryz.f72) (p := 2) rfl BF rfl Tryz.underlying40 rfl (by kernel_rfl)) rfl ⟨y, m, d, h, mi, z, rfl, HF.le (by omega), TF⟩
  by_cases h3 : k = 3
  · subst h3
    go_wp2_with fail
    refine (one_calls g (B + 7) w3.heap.size 3 3 _ _ (hr3.on ((On.refl w3).alloc _)) (by omega) (Row.of (Blk.new w3 _ _)) rfl (by omega) (by omega) (by omega) (Nat.ne_of_gt hr3.lt)).mono ?_
    rintro e w4 ⟨v, hv, rfl, hr4, T4⟩
    have B4 := T4.blk (B3.alloc _) (Ne.symm hgR)
    have L4 := T4.blk (L3.alloc _) (by omega)
    replace T4 := T3.trans ((But.of (g := g) ((On.refl w3).alloc _)).trans T4)
    obtain ⟨z, rfl⟩ : ∃ z : Int, v = .int .i64 z := by
      simp at hv
      rcases hv with rfl | rfl | rfl <;> exact ⟨_, rfl⟩
    clear hv
    have c0 : w4.cell? ⟨L, 1, none⟩ = some (.int .i64 m) := (L4.cell 1).trans rfl
    have fl : w4.frozen? ⟨L, 1, none⟩ = false := L4.frozen _
    go_upto_region 11 with fail
    replace B4 := B4.far (p := ⟨L, 1, none⟩) hLR (.int .i64 z)
    replace L4 := L4.set 1 (.int .i64 z)
    simp only [List.setIfInBounds_toArray, List.set_cons_zero, List.set_cons_succ] at L4
    replace T4 := T4.setB (p := ⟨L, 1, none⟩) hLw (.int .i64 z)
    replace hr4 := hr4.set (p := ⟨L, 1, none⟩) hgL (.int .i64 z)
    generalize w4.setCell ⟨L, 1, none⟩ (.int .i64 z) = w5 at *
    clear c0 fl
    have l0 : w5.cell? ⟨L, 0, none⟩ = some (.int .i64 y) := (L4.cell 0).trans rfl
    have l1 : w5.cell? ⟨L, 1, none⟩ = some (.int .i64 z) := (L4.cell 1).trans rfl
    have l2 : w5.cell? ⟨L, 2, none⟩ = some (.int .i64 d) := (L4.cell 2).trans rfl
    have l3 : w5.cell? ⟨L, 3, none⟩ = some (.int .i64 h) := (L4.cell 3).trans rfl
    have l4 : w5.cell? ⟨L, 4, none⟩ = some (.int .i64 mi) := (L4.cell 4).trans rfl
    have l5 : w5.cell? ⟨L, 5, none⟩ = some (.int .i64 s) := (L4.cell 5).trans rfl
    have r0 : w5.cell? ⟨R, 0, none⟩ = some (.int .i64 0) := (B4.cell 0).trans rfl
    have r1 : w5.cell? ⟨R, 1, none⟩ = some (.int .i64 0) := (B4.cell 1).trans rfl
    have r2 : w5.cell? ⟨R, 2, none⟩ = some (.int .i64 0) := (B4.cell 2).trans rfl
    have r3 : w5.cell? ⟨R, 3, none⟩ = some (.int .i64 0) := (B4.cell 3).trans rfl
    have r4 : w5.cell? ⟨R, 4, none⟩ = some (.int .i64 0) := (B4.cell 4).trans rfl
    have r5 : w5.cell? ⟨R, 5, none⟩ = some (.int .i64 0) := (B4.cell 5).trans rfl
    have fr : ∀ i, w5.frozen? ⟨R, i, none⟩ = false := B4.frozen
    go_wp2_with fail
    have BF := ((((((B4.set 0 (.int .i64 y)).set 1 (.int .i64 z)).set 2 (.int .i64 d)).set 3 (.int .i64 h)).set 4 (.int .i64 mi)).set 5 (.int .i64 s))
    have TF := ((((((T4.setB (p := ⟨R, 0, none⟩) hRw (.int .i64 y)).setB (p := ⟨R, 1, none⟩) hRw (.int .i64 z)).setB (p := ⟨R, 2, none⟩) hRw (.int .i64 d)).setB (p := ⟨R, 3, none⟩) hRw (.int .i64 h)).setB (p := ⟨R, 4, none⟩) hRw (.int .i64 mi)).setB (p := ⟨R, 5, none⟩) hRw (.int .i64 s))
    have HF := ((((((hr4.set (p := ⟨R, 0, none⟩) hgRl (.int .i64 y)).set (p := ⟨R, 1, none⟩) hgRl (.int .i64 z)).set (p := ⟨R, 2, none⟩) hgRl (.int .i64 d)).set (p := ⟨R, 3, none⟩) hgRl (.int .i64 h)).set (p := ⟨R, 4, none⟩) hgRl (.int .i64 mi)).set (p := ⟨R, 5, none⟩) hgRl (.int .i64 s))
    simp only [List.setIfInBounds_toArray, List.set_cons_zero, List.set_cons_succ] at BF
    exact bodyPost_ret (v := .agg #[.int .i64 y, .int .i64 z, .int .i64 d, .int .i64 h, .int .i64 mi, .int .i64 s]) (by exact res_c (fn := Tryz.f72) (p := 2) rfl BF rfl Tryz.underlying40 rfl (by kernel_rfl)) rfl ⟨y, z, d, h, mi, s, rfl, HF.le (by omega), TF⟩
  have k0 : ((k : Int) == 0) = false := by simp; omega
  have k1 : ((k : Int) == 1) = false := by simp; omega
  have k2 : ((k : Int) == 2) = false := by simp; omega
  have k3 : ((k : Int) == 3) = false := by simp; omega
  go_upto_region 11 with fail
  have l0 : w3.cell? ⟨L, 0, none⟩ = some (.int .i64 y) := (L3.cell 0).trans rfl
  have l1 : w3.cell? ⟨L, 1, none⟩ = some (.int .i64 m) := (L3.cell 1).trans rfl
  have l2 : w3.cell? ⟨L, 2, none⟩ = some (.int .i64 d) := (L3.cell 2).trans rfl
  have l3 : w3.cell? ⟨L, 3, none⟩ = some (.int .i64 h) := (L3.cell 3).trans rfl
  have l4 : w3.cell? ⟨L, 4, none⟩ = some (.int .i64 mi) := (L3.cell 4).trans rfl
  have l5 : w3.cell? ⟨L, 5, none⟩ = some (.int .i64 s) := (L3.cell 5).trans rfl
  have r0 : w3.cell? ⟨R, 0, none⟩ = some (.int .i64 0) := (B3.cell 0).trans rfl
  have r1 : w3.cell? ⟨R, 1, none⟩ = some (.int .i64 0) := (B3.cell 1).trans rfl
  have r2 : w3.cell? ⟨R, 2, none⟩ = some (.int .i64 0) := (B3.cell 2).trans rfl
  have r3 : w3.cell? ⟨R, 3, none⟩ = some (.int .i64 0) := (B3.cell 3).trans rfl
  have r4 : w3.cell? ⟨R, 4, none⟩ = some (.int .i64 0) := (B3.cell 4).trans rfl
  have r5 : w3.cell? ⟨R, 5, none⟩ = some (.int .i64 0) := (B3.cell 5).trans rfl
  have fr : ∀ i, w3.frozen? ⟨R, i, none⟩ = false := B3.frozen
  go_wp2_with fail
  have BF := ((((((B3.set 0 (.int .i64 y)).set 1 (.int .i64 m)).set 2 (.int .i64 d)).set 3 (.int .i64 h)).set 4 (.int .i64 mi)).set 5 (.int .i64 s))
  have TF := ((((((T3.setB (p := ⟨R, 0, none⟩) hRw (.int .i64 y)).setB (p := ⟨R, 1, none⟩) hRw (.int .i64 m)).setB (p := ⟨R, 2, none⟩) hRw (.int .i64 d)).setB (p := ⟨R, 3, none⟩) hRw (.int .i64 h)).setB (p := ⟨R, 4, none⟩) hRw (.int .i64 mi)).setB (p := ⟨R, 5, none⟩) hRw (.int .i64 s))
  have HF := ((((((hr3.set (p := ⟨R, 0, none⟩) hgRl (.int .i64 y)).set (p := ⟨R, 1, none⟩) hgRl (.int .i64 m)).set (p := ⟨R, 2, none⟩) hgRl (.int .i64 d)).set (p := ⟨R, 3, none⟩) hgRl (.int .i64 h)).set (p := ⟨R, 4, none⟩) hgRl (.int .i64 mi)).set (p := ⟨R, 5, none⟩) hgRl (.int .i64 s))
  simp only [List.setIfInBounds_toArray, List.set_cons_zero, List.set_cons_succ] at BF
  exact bodyPost_ret (v := .agg #[.int .i64 y, .int .i64 m, .int .i64 d, .int .i64 h, .int .i64 mi, .int .i64 s]) (by exact res_c (fn := Tryz.f72) (p := 2) rfl BF rfl Tryz.underlying40 rfl (by kernel_rfl)) rfl ⟨y, m, d, h, mi, s, rfl, HF.le (by omega), TF⟩
set_option maxRecDepth 100000 in
set_option maxHeartbeats 2000000 in
theorem entry_nob (g B : Nat) (w : World) (hr : Rd w g B) (hB : B ≤ 10000000) :
    Calls Tryz.prog 70 #[.pointer (some ⟨g, 0, none⟩)] w fun e w' => ∃ (nm : ByteArray) (y m d h mi s : Int) (tx : ByteArray), e = .returned (.agg (env nm y m d h mi s tx)) ∧ (nm.size ≤ 20 ∧ nm ≠ nobody) ∧ tx.size ≤ 300 ∧ Rd w' g (B + 60) ∧ But g w w' := by
  go_enter Tryz.func70, Tryz.ntmps70
  go_upto_region 1 with fail
  have B0 := Blk.new w 42 #[.string ⟨#[]⟩, .int .i64 0, .int .i64 0, .int .i64 0, .int .i64 0, .int .i64 0, .int .i64 0, .string ⟨#[]⟩]
  have O0 := (On.refl w).alloc (.cells #[.string ⟨#[]⟩, .int .i64 0, .int .i64 0, .int .i64 0, .int .i64 0, .int .i64 0, .int .i64 0, .string ⟨#[]⟩] 42)
  have hr0 := hr.on O0
  have T0 := But.of (g := g) O0
  generalize hR : w.heap.size = R at *
  have hgR : g ≠ R := by have := hr.lt; omega
  have hRw : w.heap.size ≤ R := by omega
  generalize w.alloc (.cells #[.string ⟨#[]⟩, .int .i64 0, .int .i64 0, .int .i64 0, .int .i64 0, .int .i64 0, .int .i64 0, .string ⟨#[]⟩] 42) = w0 at *
  have hgRl : g < R := by have := hr.lt; omega
  go_wp2_with fail
  refine (name_nob g B w0 hr0 (by omega)).mono ?_
  rintro e w1 ⟨nm, hnm, rfl, hr1, T1⟩
  have B1 := T1.blk B0 (Ne.symm hgR)
  replace T1 := T0.trans T1
  go_wp2_with fail
  refine (stamp_calls g (B + 1) w1 hr1 (by omega)).mono ?_
  rintro e w2 ⟨y, m, d, h, mi, s, rfl, hr2, T2⟩
  unfold stv
  have B2 := T2.blk B1 (Ne.symm hgR)
  replace T2 := T1.trans T2
  go_wp2_with fail
  refine (text_calls g (B + 7) w2 hr2 (by omega)).mono ?_
  rintro e w3 ⟨tx, htx, rfl, hr3, T3⟩
  have B3 := T3.blk B2 (Ne.symm hgR)
  replace T3 := T2.trans T3
  have r0 : w3.cell? ⟨R, 0, none⟩ = some (.string ⟨#[]⟩) := (B3.cell 0).trans rfl
  have r1 : w3.cell? ⟨R, 1, none⟩ = some (.int .i64 0) := (B3.cell 1).trans rfl
  have r2 : w3.cell? ⟨R, 2, none⟩ = some (.int .i64 0) := (B3.cell 2).trans rfl
  have r3 : w3.cell? ⟨R, 3, none⟩ = some (.int .i64 0) := (B3.cell 3).trans rfl
  have r4 : w3.cell? ⟨R, 4, none⟩ = some (.int .i64 0) := (B3.cell 4).trans rfl
  have r5 : w3.cell? ⟨R, 5, none⟩ = some (.int .i64 0) := (B3.cell 5).trans rfl
  have r6 : w3.cell? ⟨R, 6, none⟩ = some (.int .i64 0) := (B3.cell 6).trans rfl
  have r7 : w3.cell? ⟨R, 7, none⟩ = some (.string ⟨#[]⟩) := (B3.cell 7).trans rfl
  have fr : ∀ i, w3.frozen? ⟨R, i, none⟩ = false := B3.frozen
  go_wp2_with fail
  have BF := ((((((((B3.set 0 (.string nm)).set 1 (.int .i64 y)).set 2 (.int .i64 m)).set 3 (.int .i64 d)).set 4 (.int .i64 h)).set 5 (.int .i64 mi)).set 6 (.int .i64 s)).set 7 (.string tx))
  have TF := ((((((((T3.setB (p := ⟨R, 0, none⟩) hRw (.string nm)).setB (p := ⟨R, 1, none⟩) hRw (.int .i64 y)).setB (p := ⟨R, 2, none⟩) hRw (.int .i64 m)).setB (p := ⟨R, 3, none⟩) hRw (.int .i64 d)).setB (p := ⟨R, 4, none⟩) hRw (.int .i64 h)).setB (p := ⟨R, 5, none⟩) hRw (.int .i64 mi)).setB (p := ⟨R, 6, none⟩) hRw (.int .i64 s)).setB (p := ⟨R, 7, none⟩) hRw (.string tx))
  have HF := ((((((((hr3.set (p := ⟨R, 0, none⟩) hgRl (.string nm)).set (p := ⟨R, 1, none⟩) hgRl (.int .i64 y)).set (p := ⟨R, 2, none⟩) hgRl (.int .i64 m)).set (p := ⟨R, 3, none⟩) hgRl (.int .i64 d)).set (p := ⟨R, 4, none⟩) hgRl (.int .i64 h)).set (p := ⟨R, 5, none⟩) hgRl (.int .i64 mi)).set (p := ⟨R, 6, none⟩) hgRl (.int .i64 s)).set (p := ⟨R, 7, none⟩) hgRl (.string tx))
  simp only [List.setIfInBounds_toArray, List.set_cons_zero, List.set_cons_succ] at BF
  exact bodyPost_ret (v := .agg #[.string nm, .int .i64 y, .int .i64 m, .int .i64 d, .int .i64 h, .int .i64 mi, .int .i64 s, .string tx]) (by exact res_c (fn := Tryz.f70) (p := 2) rfl BF rfl Tryz.underlying42 rfl (by kernel_rfl)) rfl ⟨nm, y, m, d, h, mi, s, tx, rfl, hnm, htx, HF.le (by omega), TF⟩
theorem entry_calls (g B : Nat) (w : World) (hr : Rd w g B) (hB : B ≤ 10000000) :
    Calls Tryz.prog 70 #[.pointer (some ⟨g, 0, none⟩)] w fun e w' => ∃ (nm : ByteArray) (y m d h mi s : Int) (tx : ByteArray), e = .returned (.agg (env nm y m d h mi s tx)) ∧ nm.size ≤ 20 ∧ tx.size ≤ 300 ∧ Rd w' g (B + 60) ∧ But g w w' :=
  (entry_nob g B w hr hB).mono fun _ _ ⟨nm, y, m, d, h, mi, s, tx, e, n, r⟩ => ⟨nm, y, m, d, h, mi, s, tx, e, n.1, r⟩
set_option maxRecDepth 100000 in
set_option maxHeartbeats 2000000 in
theorem anyentry_calls (g B : Nat) (w : World) (hr : Rd w g B) (hB : B ≤ 1000000) :
    Calls Tryz.prog 48 #[.pointer (some ⟨g, 0, none⟩)] w fun e w' => ∃ (nm : ByteArray) (y m d h mi s : Int) (tx : ByteArray), e = .returned (.agg (env nm y m d h mi s tx)) ∧ nm.size ≤ 20 ∧ tx.size ≤ 1000000 ∧ Rd w' g (B + 200) ∧ But g w w' := by
  go_enter Tryz.func48, Tryz.ntmps48
  go_upto_region 1 with fail
  have B0 := Blk.new w 42 #[.string ⟨#[]⟩, .int .i64 0, .int .i64 0, .int .i64 0, .int .i64 0, .int .i64 0, .int .i64 0, .string ⟨#[]⟩]
  have O0 := (On.refl w).alloc (.cells #[.string ⟨#[]⟩, .int .i64 0, .int .i64 0, .int .i64 0, .int .i64 0, .int .i64 0, .int .i64 0, .string ⟨#[]⟩] 42)
  have hr0 := hr.on O0
  have T0 := But.of (g := g) O0
  generalize hR : w.heap.size = R at *
  have hgR : g ≠ R := by have := hr.lt; omega
  have hRw : w.heap.size ≤ R := by omega
  generalize w.alloc (.cells #[.string ⟨#[]⟩, .int .i64 0, .int .i64 0, .int .i64 0, .int .i64 0, .int .i64 0, .int .i64 0, .string ⟨#[]⟩] 42) = w0 at *
  have hgRl : g < R := by have := hr.lt; omega
  go_wp2_with fail
  refine (entry_calls g B w0 hr0 (by omega)).mono ?_
  rintro e w1 ⟨nm, y, m, d, h, mi, s, tx, rfl, hnm, htx, hr1, T1⟩
  unfold env
  have B1 := T1.blk B0 (Ne.symm hgR)
  replace T1 := T0.trans T1
  have O1 := (On.refl w1).alloc (.cells #[.string nm, .int .i64 y, .int .i64 m, .int .i64 d, .int .i64 h, .int .i64 mi, .int .i64 s, .string tx] 42)
  have L1 := Blk.new w1 42 #[.string nm, .int .i64 y, .int .i64 m, .int .i64 d, .int .i64 h, .int .i64 mi, .int .i64 s, .string tx]
  have hz1 := T1.size
  have hB1l := B1.lt
  go_wp2_with fail
  generalize hL : w1.heap.size = L at *
  have hgL : g < L := by have := hr1.lt; omega
  have hLR : R ≠ L := by omega
  have hLw : w.heap.size ≤ L := by omega
  have hr2 := hr1.on O1
  have B2 := B1.alloc (.cells #[.string nm, .int .i64 y, .int .i64 m, .int .i64 d, .int .i64 h, .int .i64 mi, .int .i64 s, .string tx] 42)
  have T2 := T1.trans (But.of (g := g) O1)
  generalize w1.alloc (.cells #[.string nm, .int .i64 y, .int .i64 m, .int .i64 d, .int .i64 h, .int .i64 mi, .int .i64 s, .string tx] 42) = w2 at *
  refine (pick_calls g (B + 60) 10 w2 hr2 (by omega) (by omega) (by omega)).mono ?_
  rintro e w3 ⟨k, hk, rfl, hr3, T3⟩
  have B3 := T3.blk B2 (Ne.symm hgR)
  have L3 := T3.blk L1 (by omega)
  replace T3 := T2.trans T3
  by_cases h0 : k = 0
  · subst h0
    go_wp2_with fail
    refine (anyname_calls g (B + 61) w3 hr3 (by omega)).mono ?_
    rintro e w4 ⟨nz, hnz, rfl, hr4, T4⟩
    have B4 := T4.blk B3 (Ne.symm hgR)
    have L4 := T4.blk L3 (by omega)
    replace T4 := T3.trans T4
    have c0 : w4.cell? ⟨L, 0, none⟩ = some (.string nm) := (L4.cell 0).trans rfl
    have fl : ∀ i, w4.frozen? ⟨L, i, none⟩ = false := L4.frozen
    go_upto_region 9 with fail
    replace B4 := B4.far (p := ⟨L, 0, none⟩) hLR (.string nz)
    replace L4 := L4.set 0 (.string nz)
    replace T4 := T4.setB (p := ⟨L, 0, none⟩) hLw (.string nz)
    replace hr4 := hr4.set (p := ⟨L, 0, none⟩) hgL (.string nz)
    simp only [List.setIfInBounds_toArray, List.set_cons_zero, List.set_cons_succ] at L4
    generalize (w4.setCell ⟨L, 0, none⟩ (.string nz)) = w5 at *
    clear fl c0
    have l0 : w5.cell? ⟨L, 0, none⟩ = some (.string nz) := (L4.cell 0).trans rfl
    have l1 : w5.cell? ⟨L, 1, none⟩ = some (.int .i64 y) := (L4.cell 1).trans rfl
    have l2 : w5.cell? ⟨L, 2, none⟩ = some (.int .i64 m) := (L4.cell 2).trans rfl
    have l3 : w5.cell? ⟨L, 3, none⟩ = some (.int .i64 d) := (L4.cell 3).trans rfl
    have l4 : w5.cell? ⟨L, 4, none⟩ = some (.int .i64 h) := (L4.cell 4).trans rfl
    have l5 : w5.cell? ⟨L, 5, none⟩ = some (.int .i64 mi) := (L4.cell 5).trans rfl
    have l6 : w5.cell? ⟨L, 6, none⟩ = some (.int .i64 s) := (L4.cell 6).trans rfl
    have l7 : w5.cell? ⟨L, 7, none⟩ = some (.string tx) := (L4.cell 7).trans rfl
    have r0 : w5.cell? ⟨R, 0, none⟩ = some (.string ⟨#[]⟩) := (B4.cell 0).trans rfl
    have r1 : w5.cell? ⟨R, 1, none⟩ = some (.int .i64 0) := (B4.cell 1).trans rfl
    have r2 : w5.cell? ⟨R, 2, none⟩ = some (.int .i64 0) := (B4.cell 2).trans rfl
    have r3 : w5.cell? ⟨R, 3, none⟩ = some (.int .i64 0) := (B4.cell 3).trans rfl
    have r4 : w5.cell? ⟨R, 4, none⟩ = some (.int .i64 0) := (B4.cell 4).trans rfl
    have r5 : w5.cell? ⟨R, 5, none⟩ = some (.int .i64 0) := (B4.cell 5).trans rfl
    have r6 : w5.cell? ⟨R, 6, none⟩ = some (.int .i64 0) := (B4.cell 6).trans rfl
    have r7 : w5.cell? ⟨R, 7, none⟩ = some (.string ⟨#[]⟩) := (B4.cell 7).trans rfl
    have fr : ∀ i, w5.frozen? ⟨R, i, none⟩ = false := B4.frozen
    go_wp2_with fail
    have BF := ((((((((B4.set 0 (.string nz)).set 1 (.int .i64 y)).set 2 (.int .i64 m)).set 3 (.int .i64 d)).set 4 (.int .i64 h)).set 5 (.int .i64 mi)).set 6 (.int .i64 s)).set 7 (.string tx))
    have TF := ((((((((T4.setB (p := ⟨R, 0, none⟩) hRw (.string nz)).setB (p := ⟨R, 1, none⟩) hRw (.int .i64 y)).setB (p := ⟨R, 2, none⟩) hRw (.int .i64 m)).setB (p := ⟨R, 3, none⟩) hRw (.int .i64 d)).setB (p := ⟨R, 4, none⟩) hRw (.int .i64 h)).setB (p := ⟨R, 5, none⟩) hRw (.int .i64 mi)).setB (p := ⟨R, 6, none⟩) hRw (.int .i64 s)).setB (p := ⟨R, 7, none⟩) hRw (.string tx))
    have HF := ((((((((hr4.set (p := ⟨R, 0, none⟩) hgRl (.string nz)).set (p := ⟨R, 1, none⟩) hgRl (.int .i64 y)).set (p := ⟨R, 2, none⟩) hgRl (.int .i64 m)).set (p := ⟨R, 3, none⟩) hgRl (.int .i64 d)).set (p := ⟨R, 4, none⟩) hgRl (.int .i64 h)).set (p := ⟨R, 5, none⟩) hgRl (.int .i64 mi)).set (p := ⟨R, 6, none⟩) hgRl (.int .i64 s)).set (p := ⟨R, 7, none⟩) hgRl (.string tx))
    simp only [List.setIfInBounds_toArray, List.set_cons_zero, List.set_cons_succ] at BF
    exact bodyPost_ret (v := .agg #[.string nz, .int .i64 y, .int .i64 m, .int .i64 d, .int .i64 h, .int .i64 mi, .int .i64 s, .string tx]) (by exact res_c (fn := Tryz.f48) (p := 2) rfl BF rfl Tryz.underlying42 rfl (by kernel_rfl)) rfl ⟨nz, y, m, d, h, mi, s, tx, rfl, hnz, by omega, HF.le (by omega), TF⟩
  by_cases h1 : k = 1
  · subst h1
    go_wp2_with fail
    refine (anystamp_calls g (B + 61) w3 hr3 (by omega)).mono ?_
    rintro e w4 ⟨y', m', d', h', mi', s', rfl, hr4, T4⟩
    unfold stv
    have B4 := T4.blk B3 (Ne.symm hgR)
    have L4 := T4.blk L3 (by omega)
    replace T4 := T3.trans T4
    have c1 : w4.cell? ⟨L, 1, none⟩ = some (.int .i64 y) := (L4.cell 1).trans rfl
    have c2 : w4.cell? ⟨L, 2, none⟩ = some (.int .i64 m) := (L4.cell 2).trans rfl
    have c3 : w4.cell? ⟨L, 3, none⟩ = some (.int .i64 d) := (L4.cell 3).trans rfl
    have c4 : w4.cell? ⟨L, 4, none⟩ = some (.int .i64 h) := (L4.cell 4).trans rfl
    have c5 : w4.cell? ⟨L, 5, none⟩ = some (.int .i64 mi) := (L4.cell 5).trans rfl
    have c6 : w4.cell? ⟨L, 6, none⟩ = some (.int .i64 s) := (L4.cell 6).trans rfl
    have fl : ∀ i, w4.frozen? ⟨L, i, none⟩ = false := L4.frozen
    go_upto_region 9 with fail
    replace B4 := B4.far (p := ⟨L, 1, none⟩) hLR (.int .i64 y')
    replace L4 := L4.set 1 (.int .i64 y')
    replace T4 := T4.setB (p := ⟨L, 1, none⟩) hLw (.int .i64 y')
    replace hr4 := hr4.set (p := ⟨L, 1, none⟩) hgL (.int .i64 y')
    replace B4 := B4.far (p := ⟨L, 2, none⟩) hLR (.int .i64 m')
    replace L4 := L4.set 2 (.int .i64 m')
    replace T4 := T4.setB (p := ⟨L, 2, none⟩) hLw (.int .i64 m')
    replace hr4 := hr4.set (p := ⟨L, 2, none⟩) hgL (.int .i64 m')
    replace B4 := B4.far (p := ⟨L, 3, none⟩) hLR (.int .i64 d')
    replace L4 := L4.set 3 (.int .i64 d')
    replace T4 := T4.setB (p := ⟨L, 3, none⟩) hLw (.int .i64 d')
    replace hr4 := hr4.set (p := ⟨L, 3, none⟩) hgL (.int .i64 d')
    replace B4 := B4.far (p := ⟨L, 4, none⟩) hLR (.int .i64 h')
    replace L4 := L4.set 4 (.int .i64 h')
    replace T4 := T4.setB (p := ⟨L, 4, none⟩) hLw (.int .i64 h')
    replace hr4 := hr4.set (p := ⟨L, 4, none⟩) hgL (.int .i64 h')
    replace B4 := B4.far (p := ⟨L, 5, none⟩) hLR (.int .i64 mi')
    replace L4 := L4.set 5 (.int .i64 mi')
    replace T4 := T4.setB (p := ⟨L, 5, none⟩) hLw (.int .i64 mi')
    replace hr4 := hr4.set (p := ⟨L, 5, none⟩) hgL (.int .i64 mi')
    replace B4 := B4.far (p := ⟨L, 6, none⟩) hLR (.int .i64 s')
    replace L4 := L4.set 6 (.int .i64 s')
    replace T4 := T4.setB (p := ⟨L, 6, none⟩) hLw (.int .i64 s')
    replace hr4 := hr4.set (p := ⟨L, 6, none⟩) hgL (.int .i64 s')
    simp only [List.setIfInBounds_toArray, List.set_cons_zero, List.set_cons_succ] at L4
    generalize ((((((w4.setCell ⟨L, 1, none⟩ (.int .i64 y')).setCell ⟨L, 2, none⟩ (.int .i64 m')).setCell ⟨L, 3, none⟩ (.int .i64 d')).setCell ⟨L, 4, none⟩ (.int .i64 h')).setCell ⟨L, 5, none⟩ (.int .i64 mi')).setCell ⟨L, 6, none⟩ (.int .i64 s')) = w5 at *
    clear fl c1 c2 c3 c4 c5 c6
    have l0 : w5.cell? ⟨L, 0, none⟩ = some (.string nm) := (L4.cell 0).trans rfl
    have l1 : w5.cell? ⟨L, 1, none⟩ = some (.int .i64 y') := (L4.cell 1).trans rfl
    have l2 : w5.cell? ⟨L, 2, none⟩ = some (.int .i64 m') := (L4.cell 2).trans rfl
    have l3 : w5.cell? ⟨L, 3, none⟩ = some (.int .i64 d') := (L4.cell 3).trans rfl
    have l4 : w5.cell? ⟨L, 4, none⟩ = some (.int .i64 h') := (L4.cell 4).trans rfl
    have l5 : w5.cell? ⟨L, 5, none⟩ = some (.int .i64 mi') := (L4.cell 5).trans rfl
    have l6 : w5.cell? ⟨L, 6, none⟩ = some (.int .i64 s') := (L4.cell 6).trans rfl
    have l7 : w5.cell? ⟨L, 7, none⟩ = some (.string tx) := (L4.cell 7).trans rfl
    have r0 : w5.cell? ⟨R, 0, none⟩ = some (.string ⟨#[]⟩) := (B4.cell 0).trans rfl
    have r1 : w5.cell? ⟨R, 1, none⟩ = some (.int .i64 0) := (B4.cell 1).trans rfl
    have r2 : w5.cell? ⟨R, 2, none⟩ = some (.int .i64 0) := (B4.cell 2).trans rfl
    have r3 : w5.cell? ⟨R, 3, none⟩ = some (.int .i64 0) := (B4.cell 3).trans rfl
    have r4 : w5.cell? ⟨R, 4, none⟩ = some (.int .i64 0) := (B4.cell 4).trans rfl
    have r5 : w5.cell? ⟨R, 5, none⟩ = some (.int .i64 0) := (B4.cell 5).trans rfl
    have r6 : w5.cell? ⟨R, 6, none⟩ = some (.int .i64 0) := (B4.cell 6).trans rfl
    have r7 : w5.cell? ⟨R, 7, none⟩ = some (.string ⟨#[]⟩) := (B4.cell 7).trans rfl
    have fr : ∀ i, w5.frozen? ⟨R, i, none⟩ = false := B4.frozen
    go_wp2_with fail
    have BF := ((((((((B4.set 0 (.string nm)).set 1 (.int .i64 y')).set 2 (.int .i64 m')).set 3 (.int .i64 d')).set 4 (.int .i64 h')).set 5 (.int .i64 mi')).set 6 (.int .i64 s')).set 7 (.string tx))
    have TF := ((((((((T4.setB (p := ⟨R, 0, none⟩) hRw (.string nm)).setB (p := ⟨R, 1, none⟩) hRw (.int .i64 y')).setB (p := ⟨R, 2, none⟩) hRw (.int .i64 m')).setB (p := ⟨R, 3, none⟩) hRw (.int .i64 d')).setB (p := ⟨R, 4, none⟩) hRw (.int .i64 h')).setB (p := ⟨R, 5, none⟩) hRw (.int .i64 mi')).setB (p := ⟨R, 6, none⟩) hRw (.int .i64 s')).setB (p := ⟨R, 7, none⟩) hRw (.string tx))
    have HF := ((((((((hr4.set (p := ⟨R, 0, none⟩) hgRl (.string nm)).set (p := ⟨R, 1, none⟩) hgRl (.int .i64 y')).set (p := ⟨R, 2, none⟩) hgRl (.int .i64 m')).set (p := ⟨R, 3, none⟩) hgRl (.int .i64 d')).set (p := ⟨R, 4, none⟩) hgRl (.int .i64 h')).set (p := ⟨R, 5, none⟩) hgRl (.int .i64 mi')).set (p := ⟨R, 6, none⟩) hgRl (.int .i64 s')).set (p := ⟨R, 7, none⟩) hgRl (.string tx))
    simp only [List.setIfInBounds_toArray, List.set_cons_zero, List.set_cons_succ] at BF
    exact bodyPost_ret (v := .agg #[.string nm, .int .i64 y', .int .i64 m', .int .i64 d', .int .i64 h', .int .i64 mi', .int .i64 s', .string tx]) (by exact res_c (fn := Tryz.f48) (p := 2) rfl BF rfl Tryz.underlying42 rfl (by kernel_rfl)) rfl ⟨nm, y', m', d', h', mi', s', tx, rfl, hnm, by omega, HF.le (by omega), TF⟩
  by_cases h2 : k = 2
  · subst h2
    go_wp2_with fail
    refine (anytext_calls g (B + 61) w3 hr3 (by omega)).mono ?_
    rintro e w4 ⟨tz, htz, rfl, hr4, T4⟩
    have B4 := T4.blk B3 (Ne.symm hgR)
    have L4 := T4.blk L3 (by omega)
    replace T4 := T3.trans T4
    have c7 : w4.cell? ⟨L, 7, none⟩ = some (.string tx) := (L4.cell 7).trans rfl
    have fl : ∀ i, w4.frozen? ⟨L, i, none⟩ = false := L4.frozen
    go_upto_region 9 with fail
    replace B4 := B4.far (p := ⟨L, 7, none⟩) hLR (.string tz)
    replace L4 := L4.set 7 (.string tz)
    replace T4 := T4.setB (p := ⟨L, 7, none⟩) hLw (.string tz)
    replace hr4 := hr4.set (p := ⟨L, 7, none⟩) hgL (.string tz)
    simp only [List.setIfInBounds_toArray, List.set_cons_zero, List.set_cons_succ] at L4
    generalize (w4.setCell ⟨L, 7, none⟩ (.string tz)) = w5 at *
    clear fl c7
    have l0 : w5.cell? ⟨L, 0, none⟩ = some (.string nm) := (L4.cell 0).trans rfl
    have l1 : w5.cell? ⟨L, 1, none⟩ = some (.int .i64 y) := (L4.cell 1).trans rfl
    have l2 : w5.cell? ⟨L, 2, none⟩ = some (.int .i64 m) := (L4.cell 2).trans rfl
    have l3 : w5.cell? ⟨L, 3, none⟩ = some (.int .i64 d) := (L4.cell 3).trans rfl
    have l4 : w5.cell? ⟨L, 4, none⟩ = some (.int .i64 h) := (L4.cell 4).trans rfl
    have l5 : w5.cell? ⟨L, 5, none⟩ = some (.int .i64 mi) := (L4.cell 5).trans rfl
    have l6 : w5.cell? ⟨L, 6, none⟩ = some (.int .i64 s) := (L4.cell 6).trans rfl
    have l7 : w5.cell? ⟨L, 7, none⟩ = some (.string tz) := (L4.cell 7).trans rfl
    have r0 : w5.cell? ⟨R, 0, none⟩ = some (.string ⟨#[]⟩) := (B4.cell 0).trans rfl
    have r1 : w5.cell? ⟨R, 1, none⟩ = some (.int .i64 0) := (B4.cell 1).trans rfl
    have r2 : w5.cell? ⟨R, 2, none⟩ = some (.int .i64 0) := (B4.cell 2).trans rfl
    have r3 : w5.cell? ⟨R, 3, none⟩ = some (.int .i64 0) := (B4.cell 3).trans rfl
    have r4 : w5.cell? ⟨R, 4, none⟩ = some (.int .i64 0) := (B4.cell 4).trans rfl
    have r5 : w5.cell? ⟨R, 5, none⟩ = some (.int .i64 0) := (B4.cell 5).trans rfl
    have r6 : w5.cell? ⟨R, 6, none⟩ = some (.int .i64 0) := (B4.cell 6).trans rfl
    have r7 : w5.cell? ⟨R, 7, none⟩ = some (.string ⟨#[]⟩) := (B4.cell 7).trans rfl
    have fr : ∀ i, w5.frozen? ⟨R, i, none⟩ = false := B4.frozen
    go_wp2_with fail
    have BF := ((((((((B4.set 0 (.string nm)).set 1 (.int .i64 y)).set 2 (.int .i64 m)).set 3 (.int .i64 d)).set 4 (.int .i64 h)).set 5 (.int .i64 mi)).set 6 (.int .i64 s)).set 7 (.string tz))
    have TF := ((((((((T4.setB (p := ⟨R, 0, none⟩) hRw (.string nm)).setB (p := ⟨R, 1, none⟩) hRw (.int .i64 y)).setB (p := ⟨R, 2, none⟩) hRw (.int .i64 m)).setB (p := ⟨R, 3, none⟩) hRw (.int .i64 d)).setB (p := ⟨R, 4, none⟩) hRw (.int .i64 h)).setB (p := ⟨R, 5, none⟩) hRw (.int .i64 mi)).setB (p := ⟨R, 6, none⟩) hRw (.int .i64 s)).setB (p := ⟨R, 7, none⟩) hRw (.string tz))
    have HF := ((((((((hr4.set (p := ⟨R, 0, none⟩) hgRl (.string nm)).set (p := ⟨R, 1, none⟩) hgRl (.int .i64 y)).set (p := ⟨R, 2, none⟩) hgRl (.int .i64 m)).set (p := ⟨R, 3, none⟩) hgRl (.int .i64 d)).set (p := ⟨R, 4, none⟩) hgRl (.int .i64 h)).set (p := ⟨R, 5, none⟩) hgRl (.int .i64 mi)).set (p := ⟨R, 6, none⟩) hgRl (.int .i64 s)).set (p := ⟨R, 7, none⟩) hgRl (.string tz))
    simp only [List.setIfInBounds_toArray, List.set_cons_zero, List.set_cons_succ] at BF
    exact bodyPost_ret (v := .agg #[.string nm, .int .i64 y, .int .i64 m, .int .i64 d, .int .i64 h, .int .i64 mi, .int .i64 s, .string tz]) (by exact res_c (fn := Tryz.f48) (p := 2) rfl BF rfl Tryz.underlying42 rfl (by kernel_rfl)) rfl ⟨nm, y, m, d, h, mi, s, tz, rfl, hnm, htz, HF.le (by omega), TF⟩
  have k0 : ((k : Int) == 0) = false := by simp; omega
  have k1 : ((k : Int) == 1) = false := by simp; omega
  have k2 : ((k : Int) == 2) = false := by simp; omega
  go_upto_region 9 with fail
  have l0 : w3.cell? ⟨L, 0, none⟩ = some (.string nm) := (L3.cell 0).trans rfl
  have l1 : w3.cell? ⟨L, 1, none⟩ = some (.int .i64 y) := (L3.cell 1).trans rfl
  have l2 : w3.cell? ⟨L, 2, none⟩ = some (.int .i64 m) := (L3.cell 2).trans rfl
  have l3 : w3.cell? ⟨L, 3, none⟩ = some (.int .i64 d) := (L3.cell 3).trans rfl
  have l4 : w3.cell? ⟨L, 4, none⟩ = some (.int .i64 h) := (L3.cell 4).trans rfl
  have l5 : w3.cell? ⟨L, 5, none⟩ = some (.int .i64 mi) := (L3.cell 5).trans rfl
  have l6 : w3.cell? ⟨L, 6, none⟩ = some (.int .i64 s) := (L3.cell 6).trans rfl
  have l7 : w3.cell? ⟨L, 7, none⟩ = some (.string tx) := (L3.cell 7).trans rfl
  have r0 : w3.cell? ⟨R, 0, none⟩ = some (.string ⟨#[]⟩) := (B3.cell 0).trans rfl
  have r1 : w3.cell? ⟨R, 1, none⟩ = some (.int .i64 0) := (B3.cell 1).trans rfl
  have r2 : w3.cell? ⟨R, 2, none⟩ = some (.int .i64 0) := (B3.cell 2).trans rfl
  have r3 : w3.cell? ⟨R, 3, none⟩ = some (.int .i64 0) := (B3.cell 3).trans rfl
  have r4 : w3.cell? ⟨R, 4, none⟩ = some (.int .i64 0) := (B3.cell 4).trans rfl
  have r5 : w3.cell? ⟨R, 5, none⟩ = some (.int .i64 0) := (B3.cell 5).trans rfl
  have r6 : w3.cell? ⟨R, 6, none⟩ = some (.int .i64 0) := (B3.cell 6).trans rfl
  have r7 : w3.cell? ⟨R, 7, none⟩ = some (.string ⟨#[]⟩) := (B3.cell 7).trans rfl
  have fr : ∀ i, w3.frozen? ⟨R, i, none⟩ = false := B3.frozen
  go_wp2_with fail
  have BF := ((((((((B3.set 0 (.string nm)).set 1 (.int .i64 y)).set 2 (.int .i64 m)).set 3 (.int .i64 d)).set 4 (.int .i64 h)).set 5 (.int .i64 mi)).set 6 (.int .i64 s)).set 7 (.string tx))
  have TF := ((((((((T3.setB (p := ⟨R, 0, none⟩) hRw (.string nm)).setB (p := ⟨R, 1, none⟩) hRw (.int .i64 y)).setB (p := ⟨R, 2, none⟩) hRw (.int .i64 m)).setB (p := ⟨R, 3, none⟩) hRw (.int .i64 d)).setB (p := ⟨R, 4, none⟩) hRw (.int .i64 h)).setB (p := ⟨R, 5, none⟩) hRw (.int .i64 mi)).setB (p := ⟨R, 6, none⟩) hRw (.int .i64 s)).setB (p := ⟨R, 7, none⟩) hRw (.string tx))
  have HF := ((((((((hr3.set (p := ⟨R, 0, none⟩) hgRl (.string nm)).set (p := ⟨R, 1, none⟩) hgRl (.int .i64 y)).set (p := ⟨R, 2, none⟩) hgRl (.int .i64 m)).set (p := ⟨R, 3, none⟩) hgRl (.int .i64 d)).set (p := ⟨R, 4, none⟩) hgRl (.int .i64 h)).set (p := ⟨R, 5, none⟩) hgRl (.int .i64 mi)).set (p := ⟨R, 6, none⟩) hgRl (.int .i64 s)).set (p := ⟨R, 7, none⟩) hgRl (.string tx))
  simp only [List.setIfInBounds_toArray, List.set_cons_zero, List.set_cons_succ] at BF
  exact bodyPost_ret (v := .agg #[.string nm, .int .i64 y, .int .i64 m, .int .i64 d, .int .i64 h, .int .i64 mi, .int .i64 s, .string tx]) (by exact res_c (fn := Tryz.f48) (p := 2) rfl BF rfl Tryz.underlying42 rfl (by kernel_rfl)) rfl ⟨nm, y, m, d, h, mi, s, tx, rfl, hnm, by omega, HF.le (by omega), TF⟩
set_option maxRecDepth 100000 in
set_option maxHeartbeats 2000000 in
theorem drawlocalput_calls (a0 : Option Addr) (len0 cap0 : Nat) (z0 : List Int) (w : World) (w0 : (a0 = none ∧ len0 = 0 ∧ cap0 = 0 ∧ z0 = []) ∨ ∃ x, a0 = some x ∧ len0 ≤ cap0 ∧ cap0 ≤ maxLen ∧ z0.length = cap0 ∧ (∀ i, i < z0.length → w.cell? (x.add i) = some (.int .u8 (z0.getD i 0))) ∧ ∀ n ∈ z0, (Lit.int .u8 n).wf = true) :
    Calls Tryz.prog 22 #[.slice a0 len0 cap0] w fun e w' => ∃ (nm : ByteArray) (y m d h mi s : Int) (tx : ByteArray), e = .returned (.agg (env nm y m d h mi s tx)) ∧ nm.size ≤ 20 ∧ tx.size ≤ 1000000 ∧ On w w' := by
  go_enter Tryz.func22, Tryz.ntmps22
  go_upto_region 1 with fail
  have B0 := Blk.new w 42 #[.string ⟨#[]⟩, .int .i64 0, .int .i64 0, .int .i64 0, .int .i64 0, .int .i64 0, .int .i64 0, .string ⟨#[]⟩]
  have O0 := (On.refl w).alloc (.cells #[.string ⟨#[]⟩, .int .i64 0, .int .i64 0, .int .i64 0, .int .i64 0, .int .i64 0, .int .i64 0, .string ⟨#[]⟩] 42)
  have w1 : (a0 = none ∧ len0 = 0 ∧ cap0 = 0 ∧ z0 = []) ∨ ∃ x, a0 = some x ∧ len0 ≤ cap0 ∧ cap0 ≤ maxLen ∧ z0.length = cap0 ∧ (∀ i, i < z0.length → (w.alloc (.cells #[.string ⟨#[]⟩, .int .i64 0, .int .i64 0, .int .i64 0, .int .i64 0, .int .i64 0, .int .i64 0, .string ⟨#[]⟩] 42)).cell? (x.add i) = some (.int .u8 (z0.getD i 0))) ∧ ∀ n ∈ z0, (Lit.int .u8 n).wf = true := by
    rcases w0 with h | ⟨x, h1, h2, h3, h4, h5, h6⟩
    · exact .inl h
    · exact .inr ⟨x, h1, h2, h3, h4, fun i hi => (O0.cell (World.block_lt_of_cell? w _ (h5 i hi))).trans (h5 i hi), h6⟩
  have HW1 := Lib.hid w1
  clear w0 w1
  generalize hR : w.heap.size = R at *
  have hRw : w.heap.size ≤ R := by omega
  generalize w.alloc (.cells #[.string ⟨#[]⟩, .int .i64 0, .int .i64 0, .int .i64 0, .int .i64 0, .int .i64 0, .int .i64 0, .string ⟨#[]⟩] 42) = w0 at *
  go_wp2_with fail
  refine (open_calls a0 len0 cap0 z0 w0 HW1.out).mono ?_
  rintro e w1 ⟨g, rfl, hr, hg, O⟩
  have hg2 : R < g := by have := B0.lt; omega
  have B1 := B0.call O.out
  go_wp2_with fail
  refine (anyentry_calls g 0 w1 hr (by omega)).mono ?_
  rintro e w2 ⟨nm, y, m, d, h, mi, s, tx, rfl, hnm, htx, hr2, T⟩
  unfold env
  have B2 := T.blk B1 (by omega)
  have OW := T.on (O0.call O) (by omega)
  have r0 : w2.cell? ⟨R, 0, none⟩ = some (.string ⟨#[]⟩) := (B2.cell 0).trans rfl
  have r1 : w2.cell? ⟨R, 1, none⟩ = some (.int .i64 0) := (B2.cell 1).trans rfl
  have r2 : w2.cell? ⟨R, 2, none⟩ = some (.int .i64 0) := (B2.cell 2).trans rfl
  have r3 : w2.cell? ⟨R, 3, none⟩ = some (.int .i64 0) := (B2.cell 3).trans rfl
  have r4 : w2.cell? ⟨R, 4, none⟩ = some (.int .i64 0) := (B2.cell 4).trans rfl
  have r5 : w2.cell? ⟨R, 5, none⟩ = some (.int .i64 0) := (B2.cell 5).trans rfl
  have r6 : w2.cell? ⟨R, 6, none⟩ = some (.int .i64 0) := (B2.cell 6).trans rfl
  have r7 : w2.cell? ⟨R, 7, none⟩ = some (.string ⟨#[]⟩) := (B2.cell 7).trans rfl
  have fr : ∀ i, w2.frozen? ⟨R, i, none⟩ = false := B2.frozen
  go_wp2_with fail
  have BF := ((((((((B2.set 0 (.string nm)).set 1 (.int .i64 y)).set 2 (.int .i64 m)).set 3 (.int .i64 d)).set 4 (.int .i64 h)).set 5 (.int .i64 mi)).set 6 (.int .i64 s)).set 7 (.string tx))
  have OF := ((((((((OW.set (p := ⟨R, 0, none⟩) hRw (.string nm)).set (p := ⟨R, 1, none⟩) hRw (.int .i64 y)).set (p := ⟨R, 2, none⟩) hRw (.int .i64 m)).set (p := ⟨R, 3, none⟩) hRw (.int .i64 d)).set (p := ⟨R, 4, none⟩) hRw (.int .i64 h)).set (p := ⟨R, 5, none⟩) hRw (.int .i64 mi)).set (p := ⟨R, 6, none⟩) hRw (.int .i64 s)).set (p := ⟨R, 7, none⟩) hRw (.string tx))
  simp only [List.setIfInBounds_toArray, List.set_cons_zero, List.set_cons_succ] at BF
  exact bodyPost_ret (v := .agg #[.string nm, .int .i64 y, .int .i64 m, .int .i64 d, .int .i64 h, .int .i64 mi, .int .i64 s, .string tx]) (by exact res_c (fn := Tryz.f22) (p := 2) rfl BF rfl Tryz.underlying42 rfl (by kernel_rfl)) rfl ⟨nm, y, m, d, h, mi, s, tx, rfl, hnm, htx, OF⟩
end Go.Proofs.YtnadjlejlohgiaaGreatDoor.Draw

