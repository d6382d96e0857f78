/- Own texts joined: Nb, Cr, Rq, WFix. -/
import Derived.WalkKit
import Derived.WalkSpells
import Derived.Deep.DeepCutAuto
import Derived.Test.YtnadjlejlohgiaaGreatDoorChecked
import Derived.Lib.Hide
import Derived.Test.YtnadjlejlohgiaaGreatDoorZ0
import Derived.Test.YtnadjlejlohgiaaGreatDoorZ5
import Derived.Test.YtnadjlejlohgiaaGreatDoorZ11
import Derived.Test.YtnadjlejlohgiaaGreatDoorZ15
import Derived.Test.YtnadjlejlohgiaaGreatDoorZ16
/- Numbers as bytes, the least first: both programs' ways to write one and to read one. -/
namespace Go.Proofs.YtnadjlejlohgiaaGreatDoor.Nb
open Go.RowKit Go.Proofs.YtnadjlejlohgiaaGreatDoor.Mem
set_option linter.unusedVariables false
set_option linter.unusedSimpArgs false
/-- A number's bytes. -/
def numB (n v : Nat) : List Nat := (List.range n).map fun i => v / 256 ^ i % 256
theorem numB_length (n v : Nat) : (numB n v).length = n := by unfold numB; rw [List.length_map, List.length_range]
theorem numB_succ (n v : Nat) : numB (n + 1) v = numB n v ++ [v / 256 ^ n % 256] := by
  unfold numB
  rw [List.range_succ, List.map_append]; rfl
theorem numB_lt (n v : Nat) : ∀ x ∈ numB n v, x < 256 := by
  intro x hx
  unfold numB at hx
  obtain ⟨i, _, rfl⟩ := List.mem_map.1 hx
  exact Nat.mod_lt _ (by decide)
theorem div_step (v k : Nat) : v / 256 ^ k / 256 = v / 256 ^ (k + 1) := by rw [Nat.div_div_eq_div_mul, Nat.pow_succ]
/-- What bytes tell. -/
def numOf : List Nat → Nat
  | [] => 0
  | x :: l => x + 256 * numOf l
theorem numOf_lt : ∀ {l : List Nat}, (∀ x ∈ l, x < 256) → numOf l < 256 ^ l.length
  | [], _ => by simp [numOf]
  | x :: l, h => by
    have h1 := numOf_lt (l := l) fun y hy => h y (List.mem_cons_of_mem _ hy)
    have h2 := h x List.mem_cons_self
    rw [numOf, List.length_cons, Nat.pow_succ]
    omega
theorem wr8 (n : Int) (h₀ : 0 ≤ n) (h₁ : n < 256) : IntKind.u8.wrap n = n := by
  have e : IntKind.u8.wrap n = n % 256 := rfl
  rw [e]; omega
theorem bytes_new (w : World) : Bytes (w.alloc (.cells #[] 5)) w.heap.size (.slice (some ⟨w.heap.size, 0, none⟩) 0 0) [] := by
  refine ⟨?_, fun g hg => by simp [Value.ownBlock] at hg; exact hg.symm⟩
  exact World.ownsRow_lit w (base := 0) (e := 5) (size := 1) #[] 0 (Nat.zero_le _) (by unfold maxLen; omega) (by simp)
/-- s = append(s, x), whatever the byte's spelling. -/
theorem wpList_byteI {ops : Array Oper} {rest : List Oper} {o : Oper} {act : Act} {Q : Exit → Act → World → Prop} {wr : World} {xi : Int} (hgd : o.guard = none) (s y : Operand)
    (ho : o.op = .call { callee := .builtin .append, args := #[s, y], argTypes := #[28, 28] })
    {r : Nat} {v : Value} {l : List Nat} (x : Nat) (hxi : xi = (x : Int)) (hs : act.eval s = v) (hby : Bytes wr r v l) (hx : act.eval y = .slice (some ⟨wr.heap.size, 0, none⟩) 1 1) (hl : l.length ≤ 100000000)
    (h : ∀ r2 cap w1, Bytes w1 r2 (.slice (some ⟨r2, 0, none⟩) (l.length + 1) cap) (l ++ [x]) → (r2 = r ∨ wr.heap.size ≤ r2) → r2 < w1.heap.size → Kp [r] wr w1 → l.length + 1 ≤ cap → cap ≤ maxLen →
      wpList Tryz.prog ops Q rest (act.put o.dst (.slice (some ⟨r2, 0, none⟩) (l.length + 1) cap)) w1) :
    wpList Tryz.prog ops Q (o :: rest) act (wr.alloc (.cells #[.int .u8 xi] 5)) := by
  subst hxi
  exact wpList_byte hgd s y ho hs hby hx hl h
set_option maxRecDepth 100000 in
set_option maxHeartbeats 1000000 in
theorem inumber_calls (v n : Nat) (hv : v < 9223372036854775808) (hn : n ≤ 100) (w : World) :
    Calls Tryz.prog 64 #[.int .i64 v, .int .i64 n] w (fun e w' => e = .returned (.string (strB (numB n v))) ∧ On w w') := by
  have O0 := (On.refl w).alloc (.cells #[] 5)
  have B0 := bytes_new w
  have hz : w.heap.size ≤ w.heap.size := Nat.le_refl _
  go_enter Tryz.func64, Tryz.ntmps64
  go_wp2_with fail
  generalize hr0 : w.heap.size = r0 at B0 hz
  go_loopw [0, 5, 8] (fun u o x wr => ∃ (k r cap : Nat), x = .int .i64 k ∧ k ≤ n ∧ u = .int .i64 (v / 256 ^ k : Nat) ∧ o = .slice (some ⟨r, 0, none⟩) k cap ∧ Bytes wr r (.slice (some ⟨r, 0, none⟩) k cap) (numB k v) ∧ On w wr ∧ w.heap.size ≤ r) (fun _ _ x _ => n - (intOf x).toNat)
  case atStart => exact ⟨0, r0, 0, rfl, by omega, by simp, rfl, B0, O0, by omega⟩
  case round =>
    obtain ⟨k, r, cap, rfl, hk, rfl, rfl, hby, O, hr⟩ := hrel
    by_cases hlt : k < n
    · have HV := Lib.hid (div_step v k)
      have HB := Lib.hid (numB_succ k v)
      have hu : v / 256 ^ k < 9223372036854775808 := Nat.lt_of_le_of_lt (Nat.div_le_self _ _) hv
      generalize v / 256 ^ k = u at *
      have e1 : IntKind.u8.wrap ((u : Int) % 256) = ((u % 256 : Nat) : Int) := by rw [wr8 _ (by omega) (by omega)]; rfl
      have hl : (numB k v).length = k := numB_length k v
      have HL := Lib.hid hl
      clear hl
      generalize numB k v = l at *
      go_wp2_with (at_builtin; go_must (refine wpList_byteI rfl _ _ rfl (u % 256) (Int.natCast_emod u 256).symm rfl hby rfl (by rw [HL.out]; omega) ?_); intro r2 cap2 w2 hby2 hr2 hrl2 K2 hc1 hc2)
      exact ⟨⟨k + 1, r2, cap2, by go_num, by omega, by rw [← HV.out]; rfl, by rw [HL.out], by rw [HB.out]; rw [HL.out] at hby2; exact hby2, K2.on O (fun x hx => by simp at hx; omega), by have := O.size; omega⟩, by simp [intOf]; omega⟩
    · obtain rfl : k = n := by omega
      have cv := bytes_conv hby
      go_wp2_with fail
      go_ret
      exact ⟨rfl, O⟩
set_option maxRecDepth 100000 in
set_option maxHeartbeats 1000000 in
theorem sbytes_calls (v n : Nat) (hv : v < 9223372036854775808) (hn : n ≤ 100) (w : World) :
    Calls Tryz.prog 56 #[.int .i64 v, .int .i64 n] w (fun e w' => e = .returned (.string (strB (numB n v))) ∧ On w w') := by
  have O0 := (On.refl w).alloc (.cells #[] 5)
  have B0 := bytes_new w
  have hz : w.heap.size ≤ w.heap.size := Nat.le_refl _
  go_enter Tryz.func56, Tryz.ntmps56
  go_wp2_with fail
  generalize hr0 : w.heap.size = r0 at B0 hz
  go_loopw [0, 5, 6] (fun u o x wr => ∃ (k r cap : Nat), x = .int .i64 k ∧ k ≤ n ∧ u = .int .i64 (v / 256 ^ k : Nat) ∧ o = .slice (some ⟨r, 0, none⟩) k cap ∧ Bytes wr r (.slice (some ⟨r, 0, none⟩) k cap) (numB k v) ∧ On w wr ∧ w.heap.size ≤ r) (fun _ _ x _ => n - (intOf x).toNat)
  case atStart => exact ⟨0, r0, 0, rfl, by omega, by simp, rfl, B0, O0, by omega⟩
  case round =>
    obtain ⟨k, r, cap, rfl, hk, rfl, rfl, hby, O, hr⟩ := hrel
    by_cases hlt : k < n
    · have HV := Lib.hid (div_step v k)
      have HB := Lib.hid (numB_succ k v)
      have hu : v / 256 ^ k < 9223372036854775808 := Nat.lt_of_le_of_lt (Nat.div_le_self _ _) hv
      generalize v / 256 ^ k = u at *
      have e1 : IntKind.u8.wrap ((u : Int) % 256) = ((u % 256 : Nat) : Int) := by rw [wr8 _ (by omega) (by omega)]; rfl
      have hl : (numB k v).length = k := numB_length k v
      have HL := Lib.hid hl
      clear hl
      generalize numB k v = l at *
      go_wp2_with (at_builtin; go_must (refine wpList_byteI rfl _ _ rfl (u % 256) (Int.natCast_emod u 256).symm rfl hby rfl (by rw [HL.out]; omega) ?_); intro r2 cap2 w2 hby2 hr2 hrl2 K2 hc1 hc2)
      exact ⟨⟨k + 1, r2, cap2, by go_num, by omega, by rw [← HV.out]; rfl, by rw [HL.out], by rw [HB.out]; rw [HL.out] at hby2; exact hby2, K2.on O (fun x hx => by simp at hx; omega), by have := O.size; omega⟩, by simp [intOf]; omega⟩
    · obtain rfl : k = n := by omega
      have cv := bytes_conv hby
      go_wp2_with fail
      go_ret
      exact ⟨rfl, O⟩
def at_ (s : ByteArray) (a k n : Nat) : Nat := numOf (((s.data.toList.map UInt8.toNat).drop (a + k)).take (n - k))
theorem at_step (s : ByteArray) {a k n : Nat} (hk : k < n) (h : a + n ≤ s.size) : (256 * at_ s a (k + 1) n + s[a + k].toNat) = at_ s a k n := by
  have hl : a + k < (s.data.toList.map UInt8.toNat).length := by rw [List.length_map, Array.length_toList]; show a + k < s.size; omega
  unfold at_
  rw [List.drop_eq_getElem_cons hl, show n - k = (n - (k + 1)) + 1 from by omega, List.take_succ_cons, numOf, List.getElem_map, show a + k + 1 = a + (k + 1) from by omega, Nat.add_comm]
  rfl
theorem at_lt (s : ByteArray) (a k n : Nat) (h3 : n - k ≤ 3) : at_ s a k n < 16777216 := by
  unfold at_
  refine Nat.lt_of_lt_of_le (numOf_lt fun x hx => ?_) (Nat.le_trans (Nat.pow_le_pow_right (by decide) (List.length_take_le _ _)) (Nat.le_trans (Nat.pow_le_pow_right (by decide) h3) (by decide)))
  obtain ⟨y, _, rfl⟩ := List.mem_map.1 (List.mem_of_mem_drop (List.mem_of_mem_take hx))
  exact y.toNat_lt
/-- The number that a text has from a place on. -/
def numAtB (s : ByteArray) (a n : Nat) : Nat := at_ s a 0 n
theorem at_end (s : ByteArray) (a n : Nat) : at_ s a n n = 0 := by unfold at_; rw [Nat.sub_self]; rfl
set_option maxRecDepth 100000 in
set_option maxHeartbeats 1000000 in
theorem inumat_calls (s : ByteArray) (a n : Nat) (hs : s.size ≤ 4294967296) (h : a + n ≤ s.size) (hn : n ≤ 4) (w : World) :
    Calls Tryz.prog 60 #[.string s, .int .i64 a, .int .i64 n] w (fun e w' => e = .returned (.int .i64 (numAtB s a n : Nat)) ∧ w' = w) := by
  have HE := Lib.hid (at_end s a n)
  have e0 : IntKind.i64.wrap ((n : Int) - 1) = (n : Int) - 1 := by rw [IntKind.wrap_i64]; omega
  unfold numAtB
  go_enter Tryz.func60, Tryz.ntmps60
  go_wp2_with fail
  clear e0
  go_loopw [7, 8] (fun v x wr => ∃ k : Nat, x = .int .i64 ((k : Int) - 1) ∧ k ≤ n ∧ v = .int .i64 (at_ s a k n : Nat) ∧ wr = w) (fun _ x _ => (intOf x + 1).toNat)
  case atStart => exact ⟨n, rfl, Nat.le_refl _, by rw [HE.out]; rfl, rfl⟩
  case round =>
    obtain ⟨k, rfl, hk, rfl, rfl⟩ := hrel
    rcases k with _ | j
    · go_wp2_with fail
      go_ret
      exact ⟨rfl, rfl⟩
    · rw [show ((j + 1 : Nat) : Int) - 1 = (j : Int) from by omega]
      have HS := Lib.hid (at_step s (a := a) (k := j) (n := n) (by omega) h)
      have hlt := at_lt s a (j + 1) n (by omega)
      have hb : s[a + j].toNat < 256 := s[a + j].toNat_lt
      generalize at_ s a (j + 1) n = v at *
      have hj : (a : Int) + (j : Int) < s.size := by omega
      go_wp2_with fail
      exact ⟨⟨j, rfl, by omega, by rw [← HS.out, Int.natCast_add, Int.natCast_mul]; rfl, trivial⟩, by simp [intOf]⟩
set_option maxRecDepth 100000 in
set_option maxHeartbeats 1000000 in
theorem snum_calls (s : ByteArray) (a n : Nat) (hs : s.size ≤ 4294967296) (h : a + n ≤ s.size) (hn : n ≤ 4) (w : World) :
    Calls Tryz.prog 29 #[.string s, .int .i64 a, .int .i64 n] w (fun e w' => e = .returned (.int .i64 (numAtB s a n : Nat)) ∧ w' = w) := by
  have HE := Lib.hid (at_end s a n)
  have e0 : IntKind.i64.wrap ((n : Int) - 1) = (n : Int) - 1 := by rw [IntKind.wrap_i64]; omega
  have e1 : IntKind.i64.wrap ((a : Int) + n) = (a : Int) + n := by rw [IntKind.wrap_i64]; omega
  have e2 : ¬ (s.size : Int) < (a : Int) + n := by omega
  unfold numAtB
  go_enter Tryz.func29, Tryz.ntmps29
  go_wp2_with fail
  clear e0
  go_loopw [7, 8] (fun v x wr => ∃ k : Nat, x = .int .i64 ((k : Int) - 1) ∧ k ≤ n ∧ v = .int .i64 (at_ s a k n : Nat) ∧ wr = w) (fun _ x _ => (intOf x + 1).toNat)
  case atStart => exact ⟨n, rfl, Nat.le_refl _, by rw [HE.out]; rfl, rfl⟩
  case round =>
    obtain ⟨k, rfl, hk, rfl, rfl⟩ := hrel
    rcases k with _ | j
    · go_wp2_with fail
      go_ret
      exact ⟨rfl, rfl⟩
    · rw [show ((j + 1 : Nat) : Int) - 1 = (j : Int) from by omega]
      have HS := Lib.hid (at_step s (a := a) (k := j) (n := n) (by omega) h)
      have hlt := at_lt s a (j + 1) n (by omega)
      have hb : s[a + j].toNat < 256 := s[a + j].toNat_lt
      generalize at_ s a (j + 1) n = v at *
      have hj : (a : Int) + (j : Int) < s.size := by omega
      go_wp2_with fail
      exact ⟨⟨j, rfl, by omega, by rw [← HS.out, Int.natCast_add, Int.natCast_mul]; rfl, trivial⟩, by simp [intOf]⟩
set_option maxRecDepth 100000 in
theorem snum_none (s : ByteArray) (a n : Nat) (hs : s.size ≤ 4294967296) (h : ¬ a + n ≤ s.size) (ha : a ≤ 4294967296) (hn : n ≤ 4) (w : World) :
    Calls Tryz.prog 29 #[.string s, .int .i64 a, .int .i64 n] w (fun e w' => e = .returned (.int .i64 (-1)) ∧ w' = w) := by
  have e1 : IntKind.i64.wrap ((a : Int) + n) = (a : Int) + n := by rw [IntKind.wrap_i64]; omega
  have e2 : (s.size : Int) < (a : Int) + n := by omega
  go_enter Tryz.func29, Tryz.ntmps29
  go_wp2_with fail
  go_ret
  exact ⟨rfl, rfl⟩
end Go.Proofs.YtnadjlejlohgiaaGreatDoor.Nb

/- The checksum of a text, both programs'. -/
namespace Go.Proofs.YtnadjlejlohgiaaGreatDoor.Cr
open Go.RowKit Go.Proofs.YtnadjlejlohgiaaGreatDoor.Mem
set_option linter.unusedVariables false
set_option linter.unusedSimpArgs false
def bitC (c : Nat) : Nat := if c % 2 = 1 then (c / 2) ^^^ 3988292384 else c / 2
def runC : Nat → Nat → Nat
  | 0, c => c
  | k + 1, c => bitC (runC k c)
def stepC (c b : Nat) : Nat := runC 8 (c ^^^ b)
def crcC (l : List Nat) : Nat := l.foldl stepC 4294967295 ^^^ 4294967295
theorem bitC_lt {c : Nat} (h : c < 4294967296) : bitC c < 4294967296 := by
  unfold bitC
  split
  · exact Nat.xor_lt_two_pow (n := 32) (by omega) (by decide)
  · omega
theorem runC_lt {c : Nat} (h : c < 4294967296) : ∀ k, runC k c < 4294967296
  | 0 => h
  | k + 1 => bitC_lt (runC_lt h k)
theorem stepC_lt {c b : Nat} (h : c < 4294967296) (hb : b < 256) : stepC c b < 4294967296 := runC_lt (Nat.xor_lt_two_pow (n := 32) (by omega) (by omega)) _
theorem xor32 {a b : Nat} (ha : a < 4294967296) (hb : b < 4294967296) : Go.bits .xor .u32 (a : Int) (b : Int) = ((a ^^^ b : Nat) : Int) := by
  have hx := Nat.xor_lt_two_pow (n := 32) (x := a) (y := b) (by omega) (by omega)
  have ha' : a % 2 ^ IntKind.u32.bits = a := by show a % 2 ^ 32 = a; omega
  have hb' : b % 2 ^ IntKind.u32.bits = b := by show b % 2 ^ 32 = b; omega
  simp only [Go.bits, BitVec.ofInt_natCast, BitVec.toNat_xor, BitVec.toNat_ofNat, ha', hb']
  rw [IntKind.wrap_u32]
  omega
theorem and1 {a : Nat} (ha : a < 4294967296) : Go.bits .and .u32 (a : Int) 1 = ((a % 2 : Nat) : Int) := by
  have ha' : a % 2 ^ IntKind.u32.bits = a := by show a % 2 ^ 32 = a; omega
  have hb' : 1 % 2 ^ IntKind.u32.bits = 1 := by decide
  rw [show (1 : Int) = ((1 : Nat) : Int) from rfl]
  simp only [Go.bits, BitVec.ofInt_natCast, BitVec.toNat_and, BitVec.toNat_ofNat, ha', hb', Nat.and_one_is_mod]
  rw [IntKind.wrap_u32]
  omega
theorem not32 {a : Nat} (ha : a < 4294967296) : Go.bits .xor .u32 IntKind.u32.max (a : Int) = ((a ^^^ 4294967295 : Nat) : Int) := by
  rw [show IntKind.u32.max = ((4294967295 : Nat) : Int) from by decide, xor32 (by decide) ha, Nat.xor_comm]
theorem bit32 {v : Nat} (hv : v < 4294967296) : Go.bits .xor .u32 ((v : Int) / 2) (3988292384 * ((v : Int) % 2)) = ((bitC v : Nat) : Int) := by
  unfold bitC
  rcases Nat.mod_two_eq_zero_or_one v with h | h
  · rw [if_neg (by omega), show (3988292384 * ((v : Int) % 2)) = ((0 : Nat) : Int) from by omega]
    have := xor32 (a := v / 2) (b := 0) (by omega) (by decide)
    rw [Nat.xor_zero] at this
    exact this
  · rw [if_pos h, show (3988292384 * ((v : Int) % 2)) = ((3988292384 : Nat) : Int) from by omega]
    exact xor32 (a := v / 2) (b := 3988292384) (by omega) (by decide)
set_option maxRecDepth 100000 in
theorem step_calls (c b : Nat) (hc : c < 4294967296) (hb : b < 256) (w : World) :
    Calls Tryz.prog 121 #[.int .u32 c, .int .u8 b] w (fun e w' => e = .returned (.int .u32 (stepC c b : Nat)) ∧ w' = w) := by
  have hx := xor32 hc (b := b) (by omega)
  have hcb : c ^^^ b < 4294967296 := Nat.xor_lt_two_pow (n := 32) (by omega) (by omega)
  unfold stepC
  generalize c ^^^ b = c0 at *
  go_enter Tryz.func121, Tryz.ntmps121
  go_upto_region 2 with fail
  clear hx
  go_wp2_with fail
  go_loopw [0, 5] (fun v x wr => ∃ k : Nat, x = .int .i64 k ∧ k ≤ 8 ∧ v = .int .u32 (runC k c0 : Nat) ∧ wr = w) (fun _ x _ => 8 - (intOf x).toNat)
  case atStart => exact ⟨0, rfl, by omega, rfl, rfl⟩
  case round =>
    obtain ⟨k, rfl, hk, rfl, rfl⟩ := hrel
    have hl := runC_lt hcb k
    have hs : bitC (runC k c0) = runC (k + 1) c0 := rfl
    by_cases hlt : k < 8
    · generalize runC k c0 = v at *
      have HX2 := Lib.hid (show Go.bits .xor .u32 ((v : Int) / 2) 3988292384 = (((v / 2) ^^^ 3988292384 : Nat) : Int) from xor32 (a := v / 2) (b := 3988292384) (by omega) (by omega))
      unfold bitC at hs
      by_cases h1 : v % 2 = 1
      · rw [if_pos h1] at hs
        have HS := Lib.hid hs
        clear hs
        go_wp2_with fail
        exact ⟨⟨k + 1, by go_num, by omega, by rw [HX2.out, HS.out], trivial⟩, by simp [intOf]; omega⟩
      · rw [if_neg h1] at hs
        have HS := Lib.hid hs
        clear hs
        go_wp2_with fail
        exact ⟨⟨k + 1, by go_num, by omega, by rw [← HS.out]; rfl, trivial⟩, by simp [intOf]; omega⟩
    · obtain rfl : k = 8 := by omega
      clear hs
      generalize hv : runC 8 c0 = v at *
      have HV := Lib.hid hv
      clear hv
      go_wp2_with fail
      go_ret
      exact ⟨by rw [HV.out]; rfl, rfl⟩
def crcTo (s : ByteArray) (k : Nat) : Nat := ((s.data.toList.map UInt8.toNat).take k).foldl stepC 4294967295
theorem crcTo_succ (s : ByteArray) {k : Nat} (h : k < s.size) : stepC (crcTo s k) s[k].toNat = crcTo s (k + 1) := by
  have hl : k < (s.data.toList.map UInt8.toNat).length := by rw [List.length_map, Array.length_toList]; exact h
  unfold crcTo
  rw [List.take_succ_eq_append_getElem hl, List.foldl_append, List.getElem_map]
  rfl
theorem crcTo_lt (s : ByteArray) : ∀ k, crcTo s k < 4294967296 := by
  intro k
  unfold crcTo
  have : ∀ (l : List Nat) c, (∀ x ∈ l, x < 256) → c < 4294967296 → l.foldl stepC c < 4294967296 := by
    intro l
    induction l with
    | nil => intro c _ h; exact h
    | cons a l ih => intro c hl h; exact ih _ (fun x hx => hl x (List.mem_cons_of_mem _ hx)) (stepC_lt h (hl a (List.mem_cons_self)))
  refine this _ _ (fun x hx => ?_) (by decide)
  obtain ⟨y, _, rfl⟩ := List.mem_map.1 (List.mem_of_mem_take hx)
  exact y.toNat_lt
theorem crcTo_all (s : ByteArray) : crcTo s s.size ^^^ 4294967295 = crcC (s.data.toList.map UInt8.toNat) := by
  unfold crcTo crcC
  rw [List.take_of_length_le (by rw [List.length_map, Array.length_toList]; exact Nat.le_refl _)]
theorem crcC_lt (s : ByteArray) : crcC (s.data.toList.map UInt8.toNat) < 4294967296 := by
  rw [← crcTo_all]; exact Nat.xor_lt_two_pow (n := 32) (crcTo_lt s _) (by decide)
set_option maxRecDepth 100000 in
theorem more_calls (s : ByteArray) (hs : s.size ≤ 4294967296) (w : World) :
    Calls Tryz.prog 85 #[.int .u32 0, .string s] w (fun e w' => e = .returned (.int .u32 (crcC (s.data.toList.map UInt8.toNat) : Nat)) ∧ w' = w) := by
  have HR := Lib.hid (crcTo_all s)
  generalize crcC (s.data.toList.map UInt8.toNat) = R at *
  have hx0 : Go.bits .xor .u32 0 4294967295 = 4294967295 := by decide
  go_enter Tryz.func85, Tryz.ntmps85
  go_wp2_with fail
  clear hx0
  go_loopw [5, 6] (fun v x wr => ∃ k : Nat, x = .int .i64 k ∧ k ≤ s.size ∧ v = .int .u32 (crcTo s k : Nat) ∧ wr = w) (fun _ x _ => s.size - (intOf x).toNat)
  case atStart => exact ⟨0, rfl, by omega, rfl, rfl⟩
  case round =>
    obtain ⟨k, rfl, hk, rfl, rfl⟩ := hrel
    have hc := crcTo_lt s k
    by_cases hlt : k < s.size
    · have HN := Lib.hid (crcTo_succ s hlt)
      have hb : s[k].toNat < 256 := s[k].toNat_lt
      have HC := Lib.hid (fun w => step_calls (crcTo s k) s[k].toNat hc hb w)
      generalize crcTo s k = v at *
      go_wp2_with fail
      refine (HC.out _).mono ?_
      rintro e w' ⟨rfl, rfl⟩
      go_wp2_with fail
      exact ⟨⟨k + 1, by go_num, by omega, by rw [HN.out], trivial⟩, by simp [intOf]; omega⟩
    · obtain rfl : k = s.size := by omega
      have HX := Lib.hid (xor32 hc (b := 4294967295) (by decide))
      generalize crcTo s s.size = v at *
      go_wp2_with fail
      go_ret
      exact ⟨by rw [← HR.out, ← HX.out]; rfl, rfl⟩
set_option maxRecDepth 100000 in
theorem scrc_calls (s : ByteArray) (hs : s.size ≤ 4294967296) (w : World) :
    Calls Tryz.prog 59 #[.string s] w (fun e w' => e = .returned (.int .i64 (crcC (s.data.toList.map UInt8.toNat) : Nat)) ∧ w' = w) := by
  have hl := crcC_lt s
  have HC := Lib.hid (fun w => more_calls s hs w)
  generalize crcC (s.data.toList.map UInt8.toNat) = R at *
  go_enter Tryz.func59, Tryz.ntmps59
  go_wp2_with fail
  refine (HC.out _).mono ?_
  rintro e w' ⟨rfl, rfl⟩
  go_wp2_with fail
  go_ret
  exact ⟨rfl, rfl⟩
set_option maxRecDepth 100000 in
set_option maxHeartbeats 1000000 in
theorem update_calls (s : ByteArray) (hs : s.size ≤ 4294967296) (w : World) :
    Calls Tryz.prog 54 #[.int .u32 0, .string s] w (fun e w' => e = .returned (.int .u32 (crcC (s.data.toList.map UInt8.toNat) : Nat)) ∧ w' = w) := by
  have HR := Lib.hid (crcTo_all s)
  generalize crcC (s.data.toList.map UInt8.toNat) = R at *
  go_enter Tryz.func54, Tryz.ntmps54
  go_wp2_with fail
  go_loopw [0, 5] (fun v x wr => ∃ k : Nat, x = .int .i64 k ∧ k ≤ s.size ∧ v = .int .u32 (crcTo s k : Nat) ∧ wr = w) (fun _ x _ => s.size - (intOf x).toNat)
  case atStart => exact ⟨0, rfl, by omega, rfl, rfl⟩
  case round =>
    obtain ⟨k, rfl, hk, rfl, rfl⟩ := hrel
    have hc := crcTo_lt s k
    by_cases hlt : k < s.size
    · have HN := Lib.hid (crcTo_succ s hlt)
      have hb : s[k].toNat < 256 := s[k].toNat_lt
      have hx := xor32 hc (b := s[k].toNat) (by omega)
      have hcb : crcTo s k ^^^ s[k].toNat < 4294967296 := Nat.xor_lt_two_pow (n := 32) (by omega) (by omega)
      unfold stepC at HN
      generalize crcTo s k = v at *
      go_wp2_with fail
      clear hx
      generalize v ^^^ s[k].toNat = c0 at *
      go_loopw [0, 20] (fun v x wr' => ∃ i : Nat, x = .int .i64 i ∧ i ≤ 8 ∧ v = .int .u32 (runC i c0 : Nat) ∧ wr' = wr) (fun _ x _ => 8 - (intOf x).toNat)
      case atStart => exact ⟨0, rfl, by omega, rfl, rfl⟩
      case round =>
        obtain ⟨i, rfl, hi, rfl, rfl⟩ := hrel
        have hl := runC_lt hcb i
        have hs : bitC (runC i c0) = runC (i + 1) c0 := rfl
        by_cases hlt : i < 8
        · generalize runC i c0 = v at *
          have HX2 := Lib.hid (bit32 hl)
          have ha := and1 hl
          have HS := Lib.hid hs
          clear hs
          go_wp2_with fail
          exact ⟨⟨i + 1, by go_num, by omega, by rw [HX2.out, HS.out], trivial⟩, by simp [intOf]; omega⟩
        · obtain rfl : i = 8 := by omega
          clear hs
          go_wp2_with fail
          exact ⟨⟨k + 1, by go_num, by omega, by rw [HN.out], trivial⟩, by simp [intOf]; omega⟩
    · obtain rfl : k = s.size := by omega
      have HX := Lib.hid (not32 hc)
      generalize crcTo s s.size = v at *
      go_wp2_with fail
      go_ret
      exact ⟨by rw [← HR.out, ← HX.out]; rfl, rfl⟩
set_option maxRecDepth 100000 in
theorem icrc_calls (s : ByteArray) (hs : s.size ≤ 4294967296) (w : World) :
    Calls Tryz.prog 25 #[.string s] w (fun e w' => e = .returned (.int .i64 (crcC (s.data.toList.map UInt8.toNat) : Nat)) ∧ w' = w) := by
  have hl := crcC_lt s
  have HC := Lib.hid (fun w => update_calls s hs w)
  generalize crcC (s.data.toList.map UInt8.toNat) = R at *
  go_enter Tryz.func25, Tryz.ntmps25
  go_wp2_with fail
  refine (HC.out _).mono ?_
  rintro e w' ⟨rfl, rfl⟩
  go_wp2_with fail
  go_ret
  exact ⟨rfl, rfl⟩
end Go.Proofs.YtnadjlejlohgiaaGreatDoor.Cr

/- The program's reader at a part packed by both codes that is bad already, or whose lengths are not ok. -/
namespace Go.Proofs.YtnadjlejlohgiaaGreatDoor.Wi
open Go.RowKit Go.Proofs.YtnadjlejlohgiaaGreatDoor.Mem Go.Proofs.YtnadjlejlohgiaaGreatDoor.Bt Go.Proofs.YtnadjlejlohgiaaGreatDoor.Cd Go.Proofs.YtnadjlejlohgiaaGreatDoor.De
set_option linter.unusedVariables false
set_option linter.unusedSimpArgs false
theorem rpacked_bad (g : Nat) (s : ByteArray) (p : Nat) (v1 v2 v3 : Value) (w : World) (hw : IR w g s p true) :
    Calls Tryz.prog 90 #[.pointer (some ⟨g, 0, none⟩), v1, v2, v3] w fun e w' => e = .returned v1 ∧ IR w' g s p true ∧ Kp [g] w w' := by
  have c2 := (hw.out.cell 2).trans rfl
  have fr : ∀ i, w.frozen? ⟨g, i, none⟩ = false := hw.out.frozen
  go_enter Tryz.func90, Tryz.ntmps90
  go_wp2_with fail
  go_ret
  exact ⟨rfl, ⟨hw.out.set 2 (.bool true), hw.le, hw.sz⟩, (Kp.refl _ _).set (.inl (by simp)) _⟩
theorem rpacked_not (g gl ol nl cl gd od nd cd : Nat) (s : ByteArray) (p : Nat) (lit dist : List Nat) (v1 : Value) (w : World) (hw : IR w g s p false)
    (hl : RowO w gl ol 3 (i64s lit)) (hd : RowO w gd od 3 (i64s dist)) (hnl : lit.length = nl) (hnd : dist.length = nd) (hnlc : nl ≤ cl) (hndc : nd ≤ cd)
    (hl15 : ∀ x ∈ lit, x ≤ 100000) (hd15 : ∀ x ∈ dist, x ≤ 100000) (hlen : nl ≤ 1000) (hlen2 : nd ≤ 1000) (hok : ¬ (okLens lit = true ∧ okLens dist = true)) :
    Calls Tryz.prog 90 #[.pointer (some ⟨g, 0, none⟩), v1, .slice (some ⟨gl, ol, none⟩) nl cl, .slice (some ⟨gd, od, none⟩) nd cd] w fun e w' => e = .returned v1 ∧ IR w' g s p true ∧ Kp [g] w w' := by
  have HNL := Lib.hid hnl
  have HND := Lib.hid hnd
  have HXL := Lib.hid hl15
  have HXD := Lib.hid hd15
  have HOK := Lib.hid hok
  have c2 := (hw.out.cell 2).trans rfl
  clear hnl hnd hl15 hd15 hok
  have step : ∀ w2, On w w2 → w2.cell? ⟨g, 2, none⟩ = some (.bool false) ∧ (∀ i, w2.frozen? ⟨g, i, none⟩ = false) := fun w2 O => ⟨((hw.on O).out.cell 2).trans rfl, (hw.on O).out.frozen⟩
  have HST := Lib.hid step
  clear step
  by_cases hokl : okLens lit = true
  · have hokd : okLens dist = false := by
      cases h : okLens dist with
      | true => exact absurd ⟨hokl, h⟩ HOK.out
      | false => rfl
    have HOL := Lib.hid hokl
    have HOD := Lib.hid hokd
    clear hokl hokd
    go_enter Tryz.func90, Tryz.ntmps90
    go_wp2_with fail
    refine (lensok_calls lit gl ol nl cl w hl HNL.out (by omega) hnlc HXL.out).mono ?_
    rintro e w1 ⟨rfl, O1⟩
    rw [HOL.out]
    go_wp2_with fail
    refine (lensok_calls dist gd od nd cd w1 (hd.on O1) HND.out (by omega) hndc HXD.out).mono ?_
    rintro e w2 ⟨rfl, O2⟩
    rw [HOD.out]
    obtain ⟨d2, fr⟩ := HST.out w2 (O1.call O2)
    have hw2 := hw.on (O1.call O2)
    go_wp2_with fail
    go_ret
    exact ⟨rfl, ⟨hw2.out.set 2 (.bool true), hw.le, hw.sz⟩, ((Kp.of [g] (O1.call O2))).set (.inl (by simp)) _⟩
  · have hokl' : okLens lit = false := by simpa using hokl
    have HOL := Lib.hid hokl'
    clear hokl hokl'
    go_enter Tryz.func90, Tryz.ntmps90
    go_wp2_with fail
    refine (lensok_calls lit gl ol nl cl w hl HNL.out (by omega) hnlc HXL.out).mono ?_
    rintro e w1 ⟨rfl, O1⟩
    rw [HOL.out]
    obtain ⟨d2, fr⟩ := HST.out w1 O1
    have hw1 := hw.on O1
    go_wp2_with fail
    go_ret
    exact ⟨rfl, ⟨hw1.out.set 2 (.bool true), hw.le, hw.sz⟩, ((Kp.of [g] O1)).set (.inl (by simp)) _⟩
end Go.Proofs.YtnadjlejlohgiaaGreatDoor.Wi

/- Lengths of codes that all know, in both programs. -/
namespace Go.Proofs.YtnadjlejlohgiaaGreatDoor.Wi
open Go.RowKit Go.Proofs.YtnadjlejlohgiaaGreatDoor.Mem Go.Proofs.YtnadjlejlohgiaaGreatDoor.De
set_option linter.unusedVariables false
set_option linter.unusedSimpArgs false
theorem fill_step (l : List Nat) {n k : Nat} (hn : l.length = n) (hk : k < n) : (l.take k ++ List.replicate (n - k) 0).set k (l.getD k 0) = l.take (k + 1) ++ List.replicate (n - (k + 1)) 0 := by
  have hl : (l.take k).length = k := by rw [List.length_take]; omega
  rw [List.set_append_right _ _ (by omega), hl, Nat.sub_self, take_succ_getD l (by omega), List.append_assoc]
  obtain ⟨m, hm⟩ : ∃ m, n - k = m + 1 := ⟨n - k - 1, by omega⟩
  rw [hm, show n - (k + 1) = m from by omega, List.replicate_succ]
  rfl
theorem fixLit_at : ∀ k, k < 288 → fixLit.getD k 0 = if k < 144 then 8 else if k < 256 then 9 else if k < 280 then 7 else 8 := by decide +kernel
theorem fixLit_length : fixLit.length = 288 := by decide +kernel
theorem fixDist_length : fixDist.length = 32 := by decide +kernel
theorem fixDist_at : ∀ k, k < 32 → fixDist.getD k 0 = 5 := by decide +kernel
theorem fill_at (l : List Nat) {n k : Nat} (hn : l.length = n) (hk : k < n) : (l.take k ++ List.replicate (n - k) 0).length = n := by
  rw [List.length_append, List.length_take, List.length_replicate]; omega
set_option maxRecDepth 100000 in
set_option maxHeartbeats 1000000 in
theorem ifixed_calls (w : World) : Calls Tryz.prog 89 #[] w fun e w' => ∃ r1 r2, e = .returned (.tuple #[.slice (some ⟨r1, 0, none⟩) 288 288, .slice (some ⟨r2, 0, none⟩) 32 32]) ∧ RowO w' r1 0 3 (i64s fixLit) ∧ RowO w' r2 0 3 (i64s fixDist) ∧ w.heap.size ≤ r1 ∧ w.heap.size ≤ r2 ∧ On w w' := by
  have hfl := fixLit_length
  have hfa := fixLit_at
  have hdl := fixDist_length
  have hda := fixDist_at
  generalize fixLit = l at *
  generalize fixDist = d at *
  have HFL := Lib.hid hfl
  have HFA := Lib.hid hfa
  have HDL := Lib.hid hdl
  have HDA := Lib.hid hda
  clear hfl hfa hdl hda
  go_enter Tryz.func89, Tryz.ntmps89
  go_wp2_with (at_make; go_must (refine wpList_ints _ rfl _ _ rfl _ _ 288 rfl rfl rfl rfl (by omega) ?_); intro w1 hN1 O1 hlt1)
  generalize hA : w.heap.size = A at *
  have HA := Lib.hid hA
  clear hA
  go_loopw [9] (fun x wr => ∃ k : Nat, x = .int .i64 (k : Int) ∧ k ≤ 288 ∧ Nums wr A (.slice (some ⟨A, 0, none⟩) 288 288) (l.take k ++ List.replicate (288 - k) 0) ∧ Kp [A] w1 wr) (fun x _ => 288 - (intOf x).toNat)
  case atStart => exact ⟨0, rfl, by omega, hN1, Kp.refl _ _⟩
  case round =>
    obtain ⟨k, rfl, hk, hN, K⟩ := hrel
    by_cases hlt : k < 288
    · have hst := fill_step l HFL.out hlt
      rw [HFA.out k hlt] at hst
      have hll := fill_at l HFL.out hlt
      have R := hN.row.1
      have cB : wr.cell? ⟨A, k, none⟩ = some (.int .i64 ((l.take k ++ List.replicate (288 - k) 0).getD k 0 : Nat)) := R.cell (i64s_get (by rw [hll]; exact hlt))
      have fB : wr.frozen? ⟨A, k, none⟩ = false := R.frozen _
      have hset := fun x => hN.set k x
      generalize l.take k ++ List.replicate (288 - k) 0 = cur at *
      generalize cur.getD k 0 = y at *
      have hk1 : (k : Int) < 288 := by omega
      have HST := Lib.hid hst
      have HSET := Lib.hid hset
      clear hst hset hll
      have hfin : ∀ (x : Nat), (if k < 144 then 8 else if k < 256 then 9 else if k < 280 then 7 else 8) = x →
          (∃ k_1 : Nat, Value.int .i64 ((k : Int) + 1) = .int .i64 (k_1 : Int) ∧ k_1 ≤ 288 ∧ Nums (wr.setCell ⟨A, k, none⟩ (.int .i64 (x : Int))) A (.slice (some ⟨A, 0, none⟩) 288 288) (l.take k_1 ++ List.replicate (288 - k_1) 0) ∧ Kp [A] w1 (wr.setCell ⟨A, k, none⟩ (.int .i64 (x : Int)))) ∧
          288 - (intOf (.int .i64 ((k : Int) + 1))).toNat < 288 - (intOf (.int .i64 (k : Int))).toNat := by
        intro x hx
        have h1 := HSET.out x
        rw [← hx, HST.out] at h1
        rw [← hx]
        exact ⟨⟨k + 1, by go_num, by omega, h1, K.set (.inl (by simp)) _⟩, by simp [intOf]; omega⟩
      have HFIN := Lib.hid hfin
      clear hfin
      by_cases h1 : k < 144
      · have h1' : (k : Int) < 144 := by omega
        go_wp2_with fail
        exact HFIN.out 8 (by rw [if_pos h1])
      · have h1' : ¬ (k : Int) < 144 := by omega
        by_cases h2 : k < 256
        · have h2' : (k : Int) < 256 := by omega
          have h3' : ¬ (280 : Int) ≤ k := by omega
          go_wp2_with fail
          exact HFIN.out 9 (by rw [if_neg h1, if_pos h2])
        · have h2' : ¬ (k : Int) < 256 := by omega
          by_cases h3 : k < 280
          · have h3' : ¬ (280 : Int) ≤ k := by omega
            go_wp2_with fail
            exact HFIN.out 7 (by rw [if_neg h1, if_neg h2, if_pos h3])
          · have h3' : (280 : Int) ≤ k := by omega
            go_wp2_with fail
            exact HFIN.out 8 (by rw [if_neg h1, if_neg h2, if_neg h3])
    · obtain rfl : k = 288 := by omega
      have htk : l.take 288 ++ List.replicate (288 - 288) 0 = l := by rw [List.take_of_length_le (by rw [HFL.out]; exact Nat.le_refl _)]; simp
      rw [htk] at hN
      clear htk
      have R1 := hN.row.1.toO
      go_wp2_with (at_make; go_must (refine wpList_ints _ rfl _ _ rfl _ _ 32 rfl rfl rfl rfl (by omega) ?_); intro w2 hN2 O2 hlt2)
      have OW : On w wr := K.on O1 (fun x hx => by simp at hx; rw [hx, HA.out]; exact Nat.le_refl _)
      have hA2 := R1.lt
      have R1' := R1.on O2
      obtain ⟨wo, hwo⟩ : ∃ wo : World, wo = wr := ⟨_, rfl⟩
      subst hwo
      generalize hC : wo.heap.size = C at *
      have HC := Lib.hid hC
      clear hC
      have hOC := OW.size
      go_loopw [35] (fun x wp => ∃ k : Nat, x = .int .i64 (k : Int) ∧ k ≤ 32 ∧ Nums wp C (.slice (some ⟨C, 0, none⟩) 32 32) (d.take k ++ List.replicate (32 - k) 0) ∧ Kp [C] w2 wp) (fun x _ => 32 - (intOf x).toNat)
      case atStart => exact ⟨0, rfl, by omega, hN2, Kp.refl _ _⟩
      case round =>
        obtain ⟨k, rfl, hk, hM, K2⟩ := hrel
        by_cases hlt : k < 32
        · have hst := fill_step d HDL.out hlt
          rw [HDA.out k hlt] at hst
          have hll := fill_at d HDL.out hlt
          have R := hM.row.1
          have cB : wr.cell? ⟨C, k, none⟩ = some (.int .i64 ((d.take k ++ List.replicate (32 - k) 0).getD k 0 : Nat)) := R.cell (i64s_get (by rw [hll]; exact hlt))
          have fB : wr.frozen? ⟨C, k, none⟩ = false := R.frozen _
          have hset := hM.set k 5
          rw [hst] at hset
          generalize (d.take k ++ List.replicate (32 - k) 0).getD k 0 = y at *
          have hk1 : (k : Int) < 32 := by omega
          have HSET := Lib.hid hset
          clear hset hll hst
          go_wp2_with fail
          exact ⟨⟨k + 1, by go_num, by omega, HSET.out, K2.set (.inl (by simp)) _⟩, by simp [intOf]; omega⟩
        · obtain rfl : k = 32 := by omega
          have htk : d.take 32 ++ List.replicate (32 - 32) 0 = d := by rw [List.take_of_length_le (by rw [HDL.out]; exact Nat.le_refl _)]; simp
          rw [htk] at hM
          clear htk
          have R2 := hM.row.1.toO
          have R1'' := R1'.kp K2 (by simp; omega)
          go_wp2_with fail
          go_ret2
          exact ⟨A, C, rfl, R1'', R2, by rw [HA.out]; exact Nat.le_refl _, by rw [← HC.out]; exact hOC, K2.on (OW.call O2) (fun x hx => by simp at hx; rw [hx, ← HC.out]; exact hOC)⟩
set_option maxRecDepth 100000 in
set_option maxHeartbeats 1000000 in
theorem sfixed_calls (w : World) : Calls Tryz.prog 146 #[] w (GivesI w fixLit) := by
  have hfl := fixLit_length
  have hfa := fixLit_at
  generalize fixLit = l at *
  have HFL := Lib.hid hfl
  have HFA := Lib.hid hfa
  clear hfl hfa
  go_enter Tryz.func146, Tryz.ntmps146
  go_wp2_with fail
  have N0 := Nums.new w #[] [] rfl (by simp)
  have O0 := (On.refl w).alloc (.cells #[] 3)
  go_loopw [1, 2] (fun v x wr => ∃ (k r c : Nat), x = .int .i64 (k : Int) ∧ k ≤ 288 ∧ v = .slice (some ⟨r, 0, none⟩) k c ∧ Nums wr r (.slice (some ⟨r, 0, none⟩) k c) (l.take k) ∧ w.heap.size ≤ r ∧ r < wr.heap.size ∧ On w wr) (fun _ x _ => 288 - (intOf x).toNat)
  case atStart => exact ⟨0, w.heap.size, 0, rfl, by omega, rfl, N0, Nat.le_refl _, (Blk.new w _ _).lt, O0⟩
  case round =>
    obtain ⟨k, r, c, rfl, hk, rfl, hN, hrb, hrl, O⟩ := hrel
    by_cases hlt : k < 288
    · have hst := take_succ_getD l (show k < l.length by rw [HFL.out]; exact hlt)
      rw [HFA.out k hlt] at hst
      have hln : (l.take k).length = k := by rw [List.length_take, HFL.out]; omega
      generalize hcc : l.take k = cur at *
      have HCC := Lib.hid hcc
      have HST := Lib.hid hst
      have HLN := Lib.hid hln
      have hl1 : cur.length ≤ 1000000 := by omega
      have hon := O.size
      clear hcc hst hln
      by_cases h1 : k < 144
      · have h1' : (k : Int) < 144 := by omega
        go_wp2_with (at_builtin; go_must (refine wpList_nat (x := 8) rfl _ _ rfl rfl hN rfl hl1 ?_); intro r2 c2 w1 hN1 hr2 hrl2 K2 hc1 hc2)
        rw [HLN.out] at hN1
        exact ⟨⟨k + 1, r2, c2, by go_num, by omega, by rw [HLN.out], by rw [HST.out, if_pos h1]; exact hN1, by omega, hrl2, K2.on O (fun x hx => by simp at hx; omega)⟩, by simp [intOf]; omega⟩
      · have h1' : ¬ (k : Int) < 144 := by omega
        by_cases h2 : k < 256
        · have h2' : (k : Int) < 256 := by omega
          go_wp2_with (at_builtin; go_must (refine wpList_nat (x := 9) rfl _ _ rfl rfl hN rfl hl1 ?_); intro r2 c2 w1 hN1 hr2 hrl2 K2 hc1 hc2)
          rw [HLN.out] at hN1
          exact ⟨⟨k + 1, r2, c2, by go_num, by omega, by rw [HLN.out], by rw [HST.out, if_neg h1, if_pos h2]; exact hN1, by omega, hrl2, K2.on O (fun x hx => by simp at hx; omega)⟩, by simp [intOf]; omega⟩
        · have h2' : ¬ (k : Int) < 256 := by omega
          by_cases h3 : k < 280
          · have h3' : (k : Int) < 280 := by omega
            go_wp2_with (at_builtin; go_must (refine wpList_nat (x := 7) rfl _ _ rfl rfl hN rfl hl1 ?_); intro r2 c2 w1 hN1 hr2 hrl2 K2 hc1 hc2)
            rw [HLN.out] at hN1
            exact ⟨⟨k + 1, r2, c2, by go_num, by omega, by rw [HLN.out], by rw [HST.out, if_neg h1, if_neg h2, if_pos h3]; exact hN1, by omega, hrl2, K2.on O (fun x hx => by simp at hx; omega)⟩, by simp [intOf]; omega⟩
          · have h3' : ¬ (k : Int) < 280 := by omega
            go_wp2_with (at_builtin; go_must (refine wpList_nat (x := 8) rfl _ _ rfl rfl hN rfl hl1 ?_); intro r2 c2 w1 hN1 hr2 hrl2 K2 hc1 hc2)
            rw [HLN.out] at hN1
            exact ⟨⟨k + 1, r2, c2, by go_num, by omega, by rw [HLN.out], by rw [HST.out, if_neg h1, if_neg h2, if_neg h3]; exact hN1, by omega, hrl2, K2.on O (fun x hx => by simp at hx; omega)⟩, by simp [intOf]; omega⟩
    · obtain rfl : k = 288 := by omega
      have ht : l.take 288 = l := List.take_of_length_le (by rw [HFL.out]; exact Nat.le_refl _)
      rw [ht] at hN
      clear ht
      go_wp2_with fail
      go_ret
      exact ⟨r, c, by rw [HFL.out]; rfl, by rw [HFL.out]; exact hN, hrb, hrl, O⟩
set_option maxRecDepth 100000 in
set_option maxHeartbeats 1000000 in
theorem sfives_calls (w : World) : Calls Tryz.prog 147 #[] w (GivesI w fixDist) := by
  have hfl := fixDist_length
  have hfa := fixDist_at
  generalize fixDist = l at *
  have HFL := Lib.hid hfl
  have HFA := Lib.hid hfa
  clear hfl hfa
  go_enter Tryz.func147, Tryz.ntmps147
  go_wp2_with fail
  have N0 := Nums.new w #[] [] rfl (by simp)
  have O0 := (On.refl w).alloc (.cells #[] 3)
  go_loopw [1, 2] (fun v x wr => ∃ (k r c : Nat), x = .int .i64 (k : Int) ∧ k ≤ 32 ∧ v = .slice (some ⟨r, 0, none⟩) k c ∧ Nums wr r (.slice (some ⟨r, 0, none⟩) k c) (l.take k) ∧ w.heap.size ≤ r ∧ r < wr.heap.size ∧ On w wr) (fun _ x _ => 32 - (intOf x).toNat)
  case atStart => exact ⟨0, w.heap.size, 0, rfl, by omega, rfl, N0, Nat.le_refl _, (Blk.new w _ _).lt, O0⟩
  case round =>
    obtain ⟨k, r, c, rfl, hk, rfl, hN, hrb, hrl, O⟩ := hrel
    by_cases hlt : k < 32
    · have hst := take_succ_getD l (show k < l.length by rw [HFL.out]; exact hlt)
      rw [HFA.out k hlt] at hst
      have hln : (l.take k).length = k := by rw [List.length_take, HFL.out]; omega
      generalize hcc : l.take k = cur at *
      have HCC := Lib.hid hcc
      have HST := Lib.hid hst
      have HLN := Lib.hid hln
      have hl1 : cur.length ≤ 1000000 := by omega
      have hon := O.size
      clear hcc hst hln
      go_wp2_with (at_builtin; go_must (refine wpList_nat (x := 5) rfl _ _ rfl rfl hN rfl hl1 ?_); intro r2 c2 w1 hN1 hr2 hrl2 K2 hc1 hc2)
      rw [HLN.out] at hN1
      exact ⟨⟨k + 1, r2, c2, by go_num, by omega, by rw [HLN.out], by rw [HST.out]; exact hN1, by omega, hrl2, K2.on O (fun x hx => by simp at hx; omega)⟩, by simp [intOf]; omega⟩
    · obtain rfl : k = 32 := by omega
      have ht : l.take 32 = l := List.take_of_length_le (by rw [HFL.out]; exact Nat.le_refl _)
      rw [ht] at hN
      clear ht
      go_wp2_with fail
      go_ret
      exact ⟨r, c, by rw [HFL.out]; rfl, by rw [HFL.out]; exact hN, hrb, hrl, O⟩
end Go.Proofs.YtnadjlejlohgiaaGreatDoor.Wi

