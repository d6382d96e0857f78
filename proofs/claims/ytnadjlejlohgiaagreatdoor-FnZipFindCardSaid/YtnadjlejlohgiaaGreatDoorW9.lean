/- Own texts joined: Nb, Cr, WTok, WTokS. -/
import Derived.WalkKit
import Derived.WalkSpells
import Derived.Deep.DeepCutAuto
import Derived.Test.YtnadjlejlohgiaaGreatDoorChecked
import Derived.Lib.Hide
import Derived.Deep.QuietTactic
import Derived.BigQuiet
import Derived.Test.YtnadjlejlohgiaaGreatDoorW0
import Derived.Test.YtnadjlejlohgiaaGreatDoorW2
import Derived.Test.YtnadjlejlohgiaaGreatDoorW7
import Derived.Test.YtnadjlejlohgiaaGreatDoorW8
/- Numbers as bytes, the least first: both programs' ways to write one and to read one. -/
namespace Go.Proofs.YtnadjlejlohgiaaGreatDoor.Nb
open Go.RowKit Go.Proofs.YtnadjlejlohgiaaGreatDoor.Mem
set_option linter.unusedVariables false
set_option linter.unusedSimpArgs false
/-- A number's bytes. -/
def numB (n v : Nat) : List Nat := (List.range n).map fun i => v / 256 ^ i % 256
theorem numB_length (n v : Nat) : (numB n v).length = n := by unfold numB; rw [List.length_map, List.length_range]
theorem numB_succ (n v : Nat) : numB (n + 1) v = numB n v ++ [v / 256 ^ n % 256] := by
  unfold numB
  rw [List.range_succ, List.map_append]; rfl
theorem numB_lt (n v : Nat) : ∀ x ∈ numB n v, x < 256 := by
  intro x hx
  unfold numB at hx
  obtain ⟨i, _, rfl⟩ := List.mem_map.1 hx
  exact Nat.mod_lt _ (by decide)
theorem div_step (v k : Nat) : v / 256 ^ k / 256 = v / 256 ^ (k + 1) := by rw [Nat.div_div_eq_div_mul, Nat.pow_succ]
/-- What bytes tell. -/
def numOf : List Nat → Nat
  | [] => 0
  | x :: l => x + 256 * numOf l
theorem numOf_lt : ∀ {l : List Nat}, (∀ x ∈ l, x < 256) → numOf l < 256 ^ l.length
  | [], _ => by simp [numOf]
  | x :: l, h => by
    have h1 := numOf_lt (l := l) fun y hy => h y (List.mem_cons_of_mem _ hy)
    have h2 := h x List.mem_cons_self
    rw [numOf, List.length_cons, Nat.pow_succ]
    omega
theorem wr8 (n : Int) (h₀ : 0 ≤ n) (h₁ : n < 256) : IntKind.u8.wrap n = n := by
  have e : IntKind.u8.wrap n = n % 256 := rfl
  rw [e]; omega
theorem bytes_new (w : World) : Bytes (w.alloc (.cells #[] 5)) w.heap.size (.slice (some ⟨w.heap.size, 0, none⟩) 0 0) [] := by
  refine ⟨?_, fun g hg => by simp [Value.ownBlock] at hg; exact hg.symm⟩
  exact World.ownsRow_lit w (base := 0) (e := 5) (size := 1) #[] 0 (Nat.zero_le _) (by unfold maxLen; omega) (by simp)
/-- s = append(s, x), whatever the byte's spelling. -/
theorem wpList_byteI {ops : Array Oper} {rest : List Oper} {o : Oper} {act : Act} {Q : Exit → Act → World → Prop} {wr : World} {xi : Int} (hgd : o.guard = none) (s y : Operand)
    (ho : o.op = .call { callee := .builtin .append, args := #[s, y], argTypes := #[28, 28] })
    {r : Nat} {v : Value} {l : List Nat} (x : Nat) (hxi : xi = (x : Int)) (hs : act.eval s = v) (hby : Bytes wr r v l) (hx : act.eval y = .slice (some ⟨wr.heap.size, 0, none⟩) 1 1) (hl : l.length ≤ 100000000)
    (h : ∀ r2 cap w1, Bytes w1 r2 (.slice (some ⟨r2, 0, none⟩) (l.length + 1) cap) (l ++ [x]) → (r2 = r ∨ wr.heap.size ≤ r2) → r2 < w1.heap.size → Kp [r] wr w1 → l.length + 1 ≤ cap → cap ≤ maxLen →
      wpList Tryz.prog ops Q rest (act.put o.dst (.slice (some ⟨r2, 0, none⟩) (l.length + 1) cap)) w1) :
    wpList Tryz.prog ops Q (o :: rest) act (wr.alloc (.cells #[.int .u8 xi] 5)) := by
  subst hxi
  exact wpList_byte hgd s y ho hs hby hx hl h
set_option maxRecDepth 100000 in
set_option maxHeartbeats 1000000 in
theorem inumber_calls (v n : Nat) (hv : v < 9223372036854775808) (hn : n ≤ 100) (w : World) :
    Calls Tryz.prog 64 #[.int .i64 v, .int .i64 n] w (fun e w' => e = .returned (.string (strB (numB n v))) ∧ On w w') := by
  have O0 := (On.refl w).alloc (.cells #[] 5)
  have B0 := bytes_new w
  have hz : w.heap.size ≤ w.heap.size := Nat.le_refl _
  go_enter Tryz.func64, Tryz.ntmps64
  go_wp2_with fail
  generalize hr0 : w.heap.size = r0 at B0 hz
  go_loopw [0, 5, 8] (fun u o x wr => ∃ (k r cap : Nat), x = .int .i64 k ∧ k ≤ n ∧ u = .int .i64 (v / 256 ^ k : Nat) ∧ o = .slice (some ⟨r, 0, none⟩) k cap ∧ Bytes wr r (.slice (some ⟨r, 0, none⟩) k cap) (numB k v) ∧ On w wr ∧ w.heap.size ≤ r) (fun _ _ x _ => n - (intOf x).toNat)
  case atStart => exact ⟨0, r0, 0, rfl, by omega, by simp, rfl, B0, O0, by omega⟩
  case round =>
    obtain ⟨k, r, cap, rfl, hk, rfl, rfl, hby, O, hr⟩ := hrel
    by_cases hlt : k < n
    · have HV := Lib.hid (div_step v k)
      have HB := Lib.hid (numB_succ k v)
      have hu : v / 256 ^ k < 9223372036854775808 := Nat.lt_of_le_of_lt (Nat.div_le_self _ _) hv
      generalize v / 256 ^ k = u at *
      have e1 : IntKind.u8.wrap ((u : Int) % 256) = ((u % 256 : Nat) : Int) := by rw [wr8 _ (by omega) (by omega)]; rfl
      have hl : (numB k v).length = k := numB_length k v
      have HL := Lib.hid hl
      clear hl
      generalize numB k v = l at *
      go_wp2_with (at_builtin; go_must (refine wpList_byteI rfl _ _ rfl (u % 256) (Int.natCast_emod u 256).symm rfl hby rfl (by rw [HL.out]; omega) ?_); intro r2 cap2 w2 hby2 hr2 hrl2 K2 hc1 hc2)
      exact ⟨⟨k + 1, r2, cap2, by go_num, by omega, by rw [← HV.out]; rfl, by rw [HL.out], by rw [HB.out]; rw [HL.out] at hby2; exact hby2, K2.on O (fun x hx => by simp at hx; omega), by have := O.size; omega⟩, by simp [intOf]; omega⟩
    · obtain rfl : k = n := by omega
      have cv := bytes_conv hby
      go_wp2_with fail
      go_ret
      exact ⟨rfl, O⟩
set_option maxRecDepth 100000 in
set_option maxHeartbeats 1000000 in
theorem sbytes_calls (v n : Nat) (hv : v < 9223372036854775808) (hn : n ≤ 100) (w : World) :
    Calls Tryz.prog 56 #[.int .i64 v, .int .i64 n] w (fun e w' => e = .returned (.string (strB (numB n v))) ∧ On w w') := by
  have O0 := (On.refl w).alloc (.cells #[] 5)
  have B0 := bytes_new w
  have hz : w.heap.size ≤ w.heap.size := Nat.le_refl _
  go_enter Tryz.func56, Tryz.ntmps56
  go_wp2_with fail
  generalize hr0 : w.heap.size = r0 at B0 hz
  go_loopw [0, 5, 6] (fun u o x wr => ∃ (k r cap : Nat), x = .int .i64 k ∧ k ≤ n ∧ u = .int .i64 (v / 256 ^ k : Nat) ∧ o = .slice (some ⟨r, 0, none⟩) k cap ∧ Bytes wr r (.slice (some ⟨r, 0, none⟩) k cap) (numB k v) ∧ On w wr ∧ w.heap.size ≤ r) (fun _ _ x _ => n - (intOf x).toNat)
  case atStart => exact ⟨0, r0, 0, rfl, by omega, by simp, rfl, B0, O0, by omega⟩
  case round =>
    obtain ⟨k, r, cap, rfl, hk, rfl, rfl, hby, O, hr⟩ := hrel
    by_cases hlt : k < n
    · have HV := Lib.hid (div_step v k)
      have HB := Lib.hid (numB_succ k v)
      have hu : v / 256 ^ k < 9223372036854775808 := Nat.lt_of_le_of_lt (Nat.div_le_self _ _) hv
      generalize v / 256 ^ k = u at *
      have e1 : IntKind.u8.wrap ((u : Int) % 256) = ((u % 256 : Nat) : Int) := by rw [wr8 _ (by omega) (by omega)]; rfl
      have hl : (numB k v).length = k := numB_length k v
      have HL := Lib.hid hl
      clear hl
      generalize numB k v = l at *
      go_wp2_with (at_builtin; go_must (refine wpList_byteI rfl _ _ rfl (u % 256) (Int.natCast_emod u 256).symm rfl hby rfl (by rw [HL.out]; omega) ?_); intro r2 cap2 w2 hby2 hr2 hrl2 K2 hc1 hc2)
      exact ⟨⟨k + 1, r2, cap2, by go_num, by omega, by rw [← HV.out]; rfl, by rw [HL.out], by rw [HB.out]; rw [HL.out] at hby2; exact hby2, K2.on O (fun x hx => by simp at hx; omega), by have := O.size; omega⟩, by simp [intOf]; omega⟩
    · obtain rfl : k = n := by omega
      have cv := bytes_conv hby
      go_wp2_with fail
      go_ret
      exact ⟨rfl, O⟩
def at_ (s : ByteArray) (a k n : Nat) : Nat := numOf (((s.data.toList.map UInt8.toNat).drop (a + k)).take (n - k))
theorem at_step (s : ByteArray) {a k n : Nat} (hk : k < n) (h : a + n ≤ s.size) : (256 * at_ s a (k + 1) n + s[a + k].toNat) = at_ s a k n := by
  have hl : a + k < (s.data.toList.map UInt8.toNat).length := by rw [List.length_map, Array.length_toList]; show a + k < s.size; omega
  unfold at_
  rw [List.drop_eq_getElem_cons hl, show n - k = (n - (k + 1)) + 1 from by omega, List.take_succ_cons, numOf, List.getElem_map, show a + k + 1 = a + (k + 1) from by omega, Nat.add_comm]
  rfl
theorem at_lt (s : ByteArray) (a k n : Nat) (h3 : n - k ≤ 3) : at_ s a k n < 16777216 := by
  unfold at_
  refine Nat.lt_of_lt_of_le (numOf_lt fun x hx => ?_) (Nat.le_trans (Nat.pow_le_pow_right (by decide) (List.length_take_le _ _)) (Nat.le_trans (Nat.pow_le_pow_right (by decide) h3) (by decide)))
  obtain ⟨y, _, rfl⟩ := List.mem_map.1 (List.mem_of_mem_drop (List.mem_of_mem_take hx))
  exact y.toNat_lt
/-- The number that a text has from a place on. -/
def numAtB (s : ByteArray) (a n : Nat) : Nat := at_ s a 0 n
theorem at_end (s : ByteArray) (a n : Nat) : at_ s a n n = 0 := by unfold at_; rw [Nat.sub_self]; rfl
set_option maxRecDepth 100000 in
set_option maxHeartbeats 1000000 in
theorem inumat_calls (s : ByteArray) (a n : Nat) (hs : s.size ≤ 4294967296) (h : a + n ≤ s.size) (hn : n ≤ 4) (w : World) :
    Calls Tryz.prog 60 #[.string s, .int .i64 a, .int .i64 n] w (fun e w' => e = .returned (.int .i64 (numAtB s a n : Nat)) ∧ w' = w) := by
  have HE := Lib.hid (at_end s a n)
  have e0 : IntKind.i64.wrap ((n : Int) - 1) = (n : Int) - 1 := by rw [IntKind.wrap_i64]; omega
  unfold numAtB
  go_enter Tryz.func60, Tryz.ntmps60
  go_wp2_with fail
  clear e0
  go_loopw [7, 8] (fun v x wr => ∃ k : Nat, x = .int .i64 ((k : Int) - 1) ∧ k ≤ n ∧ v = .int .i64 (at_ s a k n : Nat) ∧ wr = w) (fun _ x _ => (intOf x + 1).toNat)
  case atStart => exact ⟨n, rfl, Nat.le_refl _, by rw [HE.out]; rfl, rfl⟩
  case round =>
    obtain ⟨k, rfl, hk, rfl, rfl⟩ := hrel
    rcases k with _ | j
    · go_wp2_with fail
      go_ret
      exact ⟨rfl, rfl⟩
    · rw [show ((j + 1 : Nat) : Int) - 1 = (j : Int) from by omega]
      have HS := Lib.hid (at_step s (a := a) (k := j) (n := n) (by omega) h)
      have hlt := at_lt s a (j + 1) n (by omega)
      have hb : s[a + j].toNat < 256 := s[a + j].toNat_lt
      generalize at_ s a (j + 1) n = v at *
      have hj : (a : Int) + (j : Int) < s.size := by omega
      go_wp2_with fail
      exact ⟨⟨j, rfl, by omega, by rw [← HS.out, Int.natCast_add, Int.natCast_mul]; rfl, trivial⟩, by simp [intOf]⟩
set_option maxRecDepth 100000 in
set_option maxHeartbeats 1000000 in
theorem snum_calls (s : ByteArray) (a n : Nat) (hs : s.size ≤ 4294967296) (h : a + n ≤ s.size) (hn : n ≤ 4) (w : World) :
    Calls Tryz.prog 29 #[.string s, .int .i64 a, .int .i64 n] w (fun e w' => e = .returned (.int .i64 (numAtB s a n : Nat)) ∧ w' = w) := by
  have HE := Lib.hid (at_end s a n)
  have e0 : IntKind.i64.wrap ((n : Int) - 1) = (n : Int) - 1 := by rw [IntKind.wrap_i64]; omega
  have e1 : IntKind.i64.wrap ((a : Int) + n) = (a : Int) + n := by rw [IntKind.wrap_i64]; omega
  have e2 : ¬ (s.size : Int) < (a : Int) + n := by omega
  unfold numAtB
  go_enter Tryz.func29, Tryz.ntmps29
  go_wp2_with fail
  clear e0
  go_loopw [7, 8] (fun v x wr => ∃ k : Nat, x = .int .i64 ((k : Int) - 1) ∧ k ≤ n ∧ v = .int .i64 (at_ s a k n : Nat) ∧ wr = w) (fun _ x _ => (intOf x + 1).toNat)
  case atStart => exact ⟨n, rfl, Nat.le_refl _, by rw [HE.out]; rfl, rfl⟩
  case round =>
    obtain ⟨k, rfl, hk, rfl, rfl⟩ := hrel
    rcases k with _ | j
    · go_wp2_with fail
      go_ret
      exact ⟨rfl, rfl⟩
    · rw [show ((j + 1 : Nat) : Int) - 1 = (j : Int) from by omega]
      have HS := Lib.hid (at_step s (a := a) (k := j) (n := n) (by omega) h)
      have hlt := at_lt s a (j + 1) n (by omega)
      have hb : s[a + j].toNat < 256 := s[a + j].toNat_lt
      generalize at_ s a (j + 1) n = v at *
      have hj : (a : Int) + (j : Int) < s.size := by omega
      go_wp2_with fail
      exact ⟨⟨j, rfl, by omega, by rw [← HS.out, Int.natCast_add, Int.natCast_mul]; rfl, trivial⟩, by simp [intOf]⟩
set_option maxRecDepth 100000 in
theorem snum_none (s : ByteArray) (a n : Nat) (hs : s.size ≤ 4294967296) (h : ¬ a + n ≤ s.size) (ha : a ≤ 4294967296) (hn : n ≤ 4) (w : World) :
    Calls Tryz.prog 29 #[.string s, .int .i64 a, .int .i64 n] w (fun e w' => e = .returned (.int .i64 (-1)) ∧ w' = w) := by
  have e1 : IntKind.i64.wrap ((a : Int) + n) = (a : Int) + n := by rw [IntKind.wrap_i64]; omega
  have e2 : (s.size : Int) < (a : Int) + n := by omega
  go_enter Tryz.func29, Tryz.ntmps29
  go_wp2_with fail
  go_ret
  exact ⟨rfl, rfl⟩
end Go.Proofs.YtnadjlejlohgiaaGreatDoor.Nb

/- The checksum of a text, both programs'. -/
namespace Go.Proofs.YtnadjlejlohgiaaGreatDoor.Cr
open Go.RowKit Go.Proofs.YtnadjlejlohgiaaGreatDoor.Mem
set_option linter.unusedVariables false
set_option linter.unusedSimpArgs false
def bitC (c : Nat) : Nat := if c % 2 = 1 then (c / 2) ^^^ 3988292384 else c / 2
def runC : Nat → Nat → Nat
  | 0, c => c
  | k + 1, c => bitC (runC k c)
def stepC (c b : Nat) : Nat := runC 8 (c ^^^ b)
def crcC (l : List Nat) : Nat := l.foldl stepC 4294967295 ^^^ 4294967295
theorem bitC_lt {c : Nat} (h : c < 4294967296) : bitC c < 4294967296 := by
  unfold bitC
  split
  · exact Nat.xor_lt_two_pow (n := 32) (by omega) (by decide)
  · omega
theorem runC_lt {c : Nat} (h : c < 4294967296) : ∀ k, runC k c < 4294967296
  | 0 => h
  | k + 1 => bitC_lt (runC_lt h k)
theorem stepC_lt {c b : Nat} (h : c < 4294967296) (hb : b < 256) : stepC c b < 4294967296 := runC_lt (Nat.xor_lt_two_pow (n := 32) (by omega) (by omega)) _
theorem xor32 {a b : Nat} (ha : a < 4294967296) (hb : b < 4294967296) : Go.bits .xor .u32 (a : Int) (b : Int) = ((a ^^^ b : Nat) : Int) := by
  have hx := Nat.xor_lt_two_pow (n := 32) (x := a) (y := b) (by omega) (by omega)
  have ha' : a % 2 ^ IntKind.u32.bits = a := by show a % 2 ^ 32 = a; omega
  have hb' : b % 2 ^ IntKind.u32.bits = b := by show b % 2 ^ 32 = b; omega
  simp only [Go.bits, BitVec.ofInt_natCast, BitVec.toNat_xor, BitVec.toNat_ofNat, ha', hb']
  rw [IntKind.wrap_u32]
  omega
theorem and1 {a : Nat} (ha : a < 4294967296) : Go.bits .and .u32 (a : Int) 1 = ((a % 2 : Nat) : Int) := by
  have ha' : a % 2 ^ IntKind.u32.bits = a := by show a % 2 ^ 32 = a; omega
  have hb' : 1 % 2 ^ IntKind.u32.bits = 1 := by decide
  rw [show (1 : Int) = ((1 : Nat) : Int) from rfl]
  simp only [Go.bits, BitVec.ofInt_natCast, BitVec.toNat_and, BitVec.toNat_ofNat, ha', hb', Nat.and_one_is_mod]
  rw [IntKind.wrap_u32]
  omega
theorem not32 {a : Nat} (ha : a < 4294967296) : Go.bits .xor .u32 IntKind.u32.max (a : Int) = ((a ^^^ 4294967295 : Nat) : Int) := by
  rw [show IntKind.u32.max = ((4294967295 : Nat) : Int) from by decide, xor32 (by decide) ha, Nat.xor_comm]
theorem bit32 {v : Nat} (hv : v < 4294967296) : Go.bits .xor .u32 ((v : Int) / 2) (3988292384 * ((v : Int) % 2)) = ((bitC v : Nat) : Int) := by
  unfold bitC
  rcases Nat.mod_two_eq_zero_or_one v with h | h
  · rw [if_neg (by omega), show (3988292384 * ((v : Int) % 2)) = ((0 : Nat) : Int) from by omega]
    have := xor32 (a := v / 2) (b := 0) (by omega) (by decide)
    rw [Nat.xor_zero] at this
    exact this
  · rw [if_pos h, show (3988292384 * ((v : Int) % 2)) = ((3988292384 : Nat) : Int) from by omega]
    exact xor32 (a := v / 2) (b := 3988292384) (by omega) (by decide)
set_option maxRecDepth 100000 in
theorem step_calls (c b : Nat) (hc : c < 4294967296) (hb : b < 256) (w : World) :
    Calls Tryz.prog 121 #[.int .u32 c, .int .u8 b] w (fun e w' => e = .returned (.int .u32 (stepC c b : Nat)) ∧ w' = w) := by
  have hx := xor32 hc (b := b) (by omega)
  have hcb : c ^^^ b < 4294967296 := Nat.xor_lt_two_pow (n := 32) (by omega) (by omega)
  unfold stepC
  generalize c ^^^ b = c0 at *
  go_enter Tryz.func121, Tryz.ntmps121
  go_upto_region 2 with fail
  clear hx
  go_wp2_with fail
  go_loopw [0, 5] (fun v x wr => ∃ k : Nat, x = .int .i64 k ∧ k ≤ 8 ∧ v = .int .u32 (runC k c0 : Nat) ∧ wr = w) (fun _ x _ => 8 - (intOf x).toNat)
  case atStart => exact ⟨0, rfl, by omega, rfl, rfl⟩
  case round =>
    obtain ⟨k, rfl, hk, rfl, rfl⟩ := hrel
    have hl := runC_lt hcb k
    have hs : bitC (runC k c0) = runC (k + 1) c0 := rfl
    by_cases hlt : k < 8
    · generalize runC k c0 = v at *
      have HX2 := Lib.hid (show Go.bits .xor .u32 ((v : Int) / 2) 3988292384 = (((v / 2) ^^^ 3988292384 : Nat) : Int) from xor32 (a := v / 2) (b := 3988292384) (by omega) (by omega))
      unfold bitC at hs
      by_cases h1 : v % 2 = 1
      · rw [if_pos h1] at hs
        have HS := Lib.hid hs
        clear hs
        go_wp2_with fail
        exact ⟨⟨k + 1, by go_num, by omega, by rw [HX2.out, HS.out], trivial⟩, by simp [intOf]; omega⟩
      · rw [if_neg h1] at hs
        have HS := Lib.hid hs
        clear hs
        go_wp2_with fail
        exact ⟨⟨k + 1, by go_num, by omega, by rw [← HS.out]; rfl, trivial⟩, by simp [intOf]; omega⟩
    · obtain rfl : k = 8 := by omega
      clear hs
      generalize hv : runC 8 c0 = v at *
      have HV := Lib.hid hv
      clear hv
      go_wp2_with fail
      go_ret
      exact ⟨by rw [HV.out]; rfl, rfl⟩
def crcTo (s : ByteArray) (k : Nat) : Nat := ((s.data.toList.map UInt8.toNat).take k).foldl stepC 4294967295
theorem crcTo_succ (s : ByteArray) {k : Nat} (h : k < s.size) : stepC (crcTo s k) s[k].toNat = crcTo s (k + 1) := by
  have hl : k < (s.data.toList.map UInt8.toNat).length := by rw [List.length_map, Array.length_toList]; exact h
  unfold crcTo
  rw [List.take_succ_eq_append_getElem hl, List.foldl_append, List.getElem_map]
  rfl
theorem crcTo_lt (s : ByteArray) : ∀ k, crcTo s k < 4294967296 := by
  intro k
  unfold crcTo
  have : ∀ (l : List Nat) c, (∀ x ∈ l, x < 256) → c < 4294967296 → l.foldl stepC c < 4294967296 := by
    intro l
    induction l with
    | nil => intro c _ h; exact h
    | cons a l ih => intro c hl h; exact ih _ (fun x hx => hl x (List.mem_cons_of_mem _ hx)) (stepC_lt h (hl a (List.mem_cons_self)))
  refine this _ _ (fun x hx => ?_) (by decide)
  obtain ⟨y, _, rfl⟩ := List.mem_map.1 (List.mem_of_mem_take hx)
  exact y.toNat_lt
theorem crcTo_all (s : ByteArray) : crcTo s s.size ^^^ 4294967295 = crcC (s.data.toList.map UInt8.toNat) := by
  unfold crcTo crcC
  rw [List.take_of_length_le (by rw [List.length_map, Array.length_toList]; exact Nat.le_refl _)]
theorem crcC_lt (s : ByteArray) : crcC (s.data.toList.map UInt8.toNat) < 4294967296 := by
  rw [← crcTo_all]; exact Nat.xor_lt_two_pow (n := 32) (crcTo_lt s _) (by decide)
set_option maxRecDepth 100000 in
theorem more_calls (s : ByteArray) (hs : s.size ≤ 4294967296) (w : World) :
    Calls Tryz.prog 85 #[.int .u32 0, .string s] w (fun e w' => e = .returned (.int .u32 (crcC (s.data.toList.map UInt8.toNat) : Nat)) ∧ w' = w) := by
  have HR := Lib.hid (crcTo_all s)
  generalize crcC (s.data.toList.map UInt8.toNat) = R at *
  have hx0 : Go.bits .xor .u32 0 4294967295 = 4294967295 := by decide
  go_enter Tryz.func85, Tryz.ntmps85
  go_wp2_with fail
  clear hx0
  go_loopw [5, 6] (fun v x wr => ∃ k : Nat, x = .int .i64 k ∧ k ≤ s.size ∧ v = .int .u32 (crcTo s k : Nat) ∧ wr = w) (fun _ x _ => s.size - (intOf x).toNat)
  case atStart => exact ⟨0, rfl, by omega, rfl, rfl⟩
  case round =>
    obtain ⟨k, rfl, hk, rfl, rfl⟩ := hrel
    have hc := crcTo_lt s k
    by_cases hlt : k < s.size
    · have HN := Lib.hid (crcTo_succ s hlt)
      have hb : s[k].toNat < 256 := s[k].toNat_lt
      have HC := Lib.hid (fun w => step_calls (crcTo s k) s[k].toNat hc hb w)
      generalize crcTo s k = v at *
      go_wp2_with fail
      refine (HC.out _).mono ?_
      rintro e w' ⟨rfl, rfl⟩
      go_wp2_with fail
      exact ⟨⟨k + 1, by go_num, by omega, by rw [HN.out], trivial⟩, by simp [intOf]; omega⟩
    · obtain rfl : k = s.size := by omega
      have HX := Lib.hid (xor32 hc (b := 4294967295) (by decide))
      generalize crcTo s s.size = v at *
      go_wp2_with fail
      go_ret
      exact ⟨by rw [← HR.out, ← HX.out]; rfl, rfl⟩
set_option maxRecDepth 100000 in
theorem scrc_calls (s : ByteArray) (hs : s.size ≤ 4294967296) (w : World) :
    Calls Tryz.prog 59 #[.string s] w (fun e w' => e = .returned (.int .i64 (crcC (s.data.toList.map UInt8.toNat) : Nat)) ∧ w' = w) := by
  have hl := crcC_lt s
  have HC := Lib.hid (fun w => more_calls s hs w)
  generalize crcC (s.data.toList.map UInt8.toNat) = R at *
  go_enter Tryz.func59, Tryz.ntmps59
  go_wp2_with fail
  refine (HC.out _).mono ?_
  rintro e w' ⟨rfl, rfl⟩
  go_wp2_with fail
  go_ret
  exact ⟨rfl, rfl⟩
set_option maxRecDepth 100000 in
set_option maxHeartbeats 1000000 in
theorem update_calls (s : ByteArray) (hs : s.size ≤ 4294967296) (w : World) :
    Calls Tryz.prog 54 #[.int .u32 0, .string s] w (fun e w' => e = .returned (.int .u32 (crcC (s.data.toList.map UInt8.toNat) : Nat)) ∧ w' = w) := by
  have HR := Lib.hid (crcTo_all s)
  generalize crcC (s.data.toList.map UInt8.toNat) = R at *
  go_enter Tryz.func54, Tryz.ntmps54
  go_wp2_with fail
  go_loopw [0, 5] (fun v x wr => ∃ k : Nat, x = .int .i64 k ∧ k ≤ s.size ∧ v = .int .u32 (crcTo s k : Nat) ∧ wr = w) (fun _ x _ => s.size - (intOf x).toNat)
  case atStart => exact ⟨0, rfl, by omega, rfl, rfl⟩
  case round =>
    obtain ⟨k, rfl, hk, rfl, rfl⟩ := hrel
    have hc := crcTo_lt s k
    by_cases hlt : k < s.size
    · have HN := Lib.hid (crcTo_succ s hlt)
      have hb : s[k].toNat < 256 := s[k].toNat_lt
      have hx := xor32 hc (b := s[k].toNat) (by omega)
      have hcb : crcTo s k ^^^ s[k].toNat < 4294967296 := Nat.xor_lt_two_pow (n := 32) (by omega) (by omega)
      unfold stepC at HN
      generalize crcTo s k = v at *
      go_wp2_with fail
      clear hx
      generalize v ^^^ s[k].toNat = c0 at *
      go_loopw [0, 20] (fun v x wr' => ∃ i : Nat, x = .int .i64 i ∧ i ≤ 8 ∧ v = .int .u32 (runC i c0 : Nat) ∧ wr' = wr) (fun _ x _ => 8 - (intOf x).toNat)
      case atStart => exact ⟨0, rfl, by omega, rfl, rfl⟩
      case round =>
        obtain ⟨i, rfl, hi, rfl, rfl⟩ := hrel
        have hl := runC_lt hcb i
        have hs : bitC (runC i c0) = runC (i + 1) c0 := rfl
        by_cases hlt : i < 8
        · generalize runC i c0 = v at *
          have HX2 := Lib.hid (bit32 hl)
          have ha := and1 hl
          have HS := Lib.hid hs
          clear hs
          go_wp2_with fail
          exact ⟨⟨i + 1, by go_num, by omega, by rw [HX2.out, HS.out], trivial⟩, by simp [intOf]; omega⟩
        · obtain rfl : i = 8 := by omega
          clear hs
          go_wp2_with fail
          exact ⟨⟨k + 1, by go_num, by omega, by rw [HN.out], trivial⟩, by simp [intOf]; omega⟩
    · obtain rfl : k = s.size := by omega
      have HX := Lib.hid (not32 hc)
      generalize crcTo s s.size = v at *
      go_wp2_with fail
      go_ret
      exact ⟨by rw [← HR.out, ← HX.out]; rfl, rfl⟩
set_option maxRecDepth 100000 in
theorem icrc_calls (s : ByteArray) (hs : s.size ≤ 4294967296) (w : World) :
    Calls Tryz.prog 25 #[.string s] w (fun e w' => e = .returned (.int .i64 (crcC (s.data.toList.map UInt8.toNat) : Nat)) ∧ w' = w) := by
  have hl := crcC_lt s
  have HC := Lib.hid (fun w => update_calls s hs w)
  generalize crcC (s.data.toList.map UInt8.toNat) = R at *
  go_enter Tryz.func25, Tryz.ntmps25
  go_wp2_with fail
  refine (HC.out _).mono ?_
  rintro e w' ⟨rfl, rfl⟩
  go_wp2_with fail
  go_ret
  exact ⟨rfl, rfl⟩
end Go.Proofs.YtnadjlejlohgiaaGreatDoor.Cr

/- Tokens of a text, in both programs: the plain ones. Conditions: sizes. -/
namespace Go.Proofs.YtnadjlejlohgiaaGreatDoor.Wi
open Go.RowKit Go.Proofs.YtnadjlejlohgiaaGreatDoor.Mem Go.Proofs.YtnadjlejlohgiaaGreatDoor.Lz
set_option linter.unusedVariables false
set_option linter.unusedSimpArgs false
def tokArr (t : Tok) : Array Value := #[.int .i64 t.byte, .int .i64 t.long, .int .i64 t.back]
def tokCells (l : List Tok) : List Value := l.flatMap fun t => (tokArr t).toList
theorem tokCells_snoc (l : List Tok) (t : Tok) : tokCells (l ++ [t]) = tokCells l ++ (tokArr t).toList := by simp [tokCells]
/-- What the program holds behind j distances. -/
def held (t : List Nat) (a j : Nat) : Tok := if 3 ≤ (best t a j).1 then ⟨0, ((best t a j).1 : Nat), ((best t a j).2 : Nat)⟩ else ⟨(t.getD a 0 : Nat), 0, 0⟩
theorem toks_step (t : List Nat) (a : Nat) (ha : a < t.length) : toks t (t.length - a) a = held t a (min 250 a) :: toks t (t.length - (a + max ((held t a (min 250 a)).long).toNat 1)) (a + max ((held t a (min 250 a)).long).toNat 1) ∧ a + max ((held t a (min 250 a)).long).toNat 1 ≤ t.length := by
  obtain ⟨f, hf⟩ : ∃ f, t.length - a = f + 1 := ⟨t.length - a - 1, by omega⟩
  have hb := best_le t a (min 250 a)
  rw [hf]
  simp only [toks]
  rw [if_pos ha]
  unfold held
  by_cases h : (best t a (min 250 a)).1 < 3
  · rw [if_pos h, if_neg (by omega)]
    simp only
    rw [show (Int.toNat 0) = 0 from rfl, show max 0 1 = 1 from rfl, show t.length - (a + 1) = f from by omega]
    exact ⟨rfl, by omega⟩
  · rw [if_neg h, if_pos (by omega)]
    simp only [Int.toNat_natCast]
    rw [show max (best t a (min 250 a)).1 1 = (best t a (min 250 a)).1 from by omega]
    exact ⟨by rw [toks_more t f (t.length - (a + (best t a (min 250 a)).1)) _ (by omega) (by omega)], by omega⟩
theorem toks_end (t : List Nat) (a : Nat) (ha : t.length ≤ a) : toks t (t.length - a) a = [] := by
  rw [show t.length - a = 0 from by omega]; rfl
theorem run_step {t : List Nat} {a back n : Nat} (hn : n + run t (a + n) (a + n - back) (60 - n) = mlen t a back) (h1 : 1 ≤ back) (h2 : back ≤ a) (hc : n < 60 ∧ a + n < t.length ∧ t[a + n]? = t[a + n - back]?) :
    n + 1 + run t (a + (n + 1)) (a + (n + 1) - back) (60 - (n + 1)) = mlen t a back := by
  obtain ⟨f, hf⟩ : ∃ f, 60 - n = f + 1 := ⟨60 - n - 1, by omega⟩
  rw [hf] at hn
  simp only [run] at hn
  rw [if_pos hc.2] at hn
  rw [show 60 - (n + 1) = f from by omega, show a + (n + 1) = a + n + 1 from by omega, show a + n + 1 - back = a + n - back + 1 from by omega]
  omega
theorem run_stop {t : List Nat} {a back n : Nat} (hn : n + run t (a + n) (a + n - back) (60 - n) = mlen t a back) (hc : ¬ (n < 60 ∧ a + n < t.length ∧ t[a + n]? = t[a + n - back]?)) : n = mlen t a back := by
  by_cases h60 : n < 60
  · obtain ⟨f, hf⟩ : ∃ f, 60 - n = f + 1 := ⟨60 - n - 1, by omega⟩
    rw [hf] at hn
    simp only [run] at hn
    rw [if_neg (fun h => hc ⟨h60, h⟩)] at hn
    omega
  · rw [show 60 - n = 0 from by omega] at hn
    simp only [run] at hn
    omega
theorem tokinfo : (Tryz.prog.info? 117).map (fun i => (i.zero, i.size, i.bytes)) = some (some (.agg #[.int .i64 0, .int .i64 0, .int .i64 0]), 3, 24) := by kernel_rfl
/-- What a contract tells that makes tokens. -/
def GivesT (w : World) (l : List Tok) (e : Ending) (w' : World) : Prop := ∃ r cap, e = .returned (.slice (some ⟨r, 0, none⟩) l.length cap) ∧ Row w' r 117 (tokCells l) ∧ l.length ≤ cap ∧ cap ≤ maxLen ∧ w.heap.size ≤ r ∧ On w w'
end Go.Proofs.YtnadjlejlohgiaaGreatDoor.Wi

/- Tokens of a text, in the reference: the plain ones. Conditions: sizes. -/
namespace Go.Proofs.YtnadjlejlohgiaaGreatDoor.Wi
open Go.RowKit Go.Proofs.YtnadjlejlohgiaaGreatDoor.Mem Go.Proofs.YtnadjlejlohgiaaGreatDoor.Lz
set_option linter.unusedVariables false
set_option linter.unusedSimpArgs false
theorem at_all (s : ByteArray) : ∀ i (h : i < s.size), (chars s)[i]? = some s[i].toNat := fun i h => by
  have := chars_at s h
  rw [List.getD_eq_getElem?_getD, List.getElem?_eq_getElem (by rw [chars_length]; exact h)] at this
  rw [List.getElem?_eq_getElem (by rw [chars_length]; exact h)]
  exact congrArg some this
set_option maxRecDepth 100000 in
set_option maxHeartbeats 1000000 in
theorem again_calls (s : ByteArray) (hs : s.size ≤ 300) (a k : Nat) (hk : 1 ≤ k) (hka : k ≤ a) (ha : a < s.size) (w : World) : Calls Tryz.prog 168 #[.string s, .int .i64 a, .int .i64 k] w (Tells w (.int .i64 (mlen (chars s) a k : Nat))) := by
  have htl : (chars s).length = s.size := chars_length s
  have hat := at_all s
  generalize chars s = t at *
  have HTL := Lib.hid htl
  have HAT := Lib.hid hat
  clear htl hat
  go_enter Tryz.func168, Tryz.ntmps168
  go_wp2_with fail
  go_loopw [7] (fun x wr => ∃ n : Nat, x = .int .i64 (n : Int) ∧ n ≤ 60 ∧ RowKit.Hid (n + run t (a + n) (a + n - k) (60 - n) = mlen t a k) ∧ On w wr) (fun x _ => 60 - (intOf x).toNat)
  case atStart => exact ⟨0, rfl, by omega, Lib.hid (by simp [mlen]), On.refl _⟩
  case round =>
    obtain ⟨n, rfl, hn, hrun, O3⟩ := hrel
    have q1 : IntKind.i64.wrap ((a : Int) + (n : Int)) = ((a + n : Nat) : Int) := by rw [IntKind.wrap_i64]; omega
    have q2 : IntKind.i64.wrap (((a + n : Nat) : Int) - (k : Int)) = ((a + n - k : Nat) : Int) := by rw [IntKind.wrap_i64]; omega
    have hq : a + n - k < a + n := by omega
    have hq2 : a + n ≤ 400 := by omega
    have hcont : n < 60 ∧ a + n < t.length ∧ t[a + n]? = t[a + n - k]? ∨ ¬ (n < 60 ∧ a + n < t.length ∧ t[a + n]? = t[a + n - k]?) := Classical.em _
    have hgo := run_step hrun.out hk hka
    have hend := run_stop hrun.out
    generalize hp : a + n = p at hcont hend q1 q2 hq hq2
    generalize hpq : p - k = q at hcont hend q2 hq
    rw [hp, hpq] at hgo
    have HP := Lib.hid hp
    have HPQ := Lib.hid hpq
    have HGO := Lib.hid hgo
    have HEND := Lib.hid hend
    clear hp hpq hgo hend hrun
    rcases hcont with hc | hc
    · have hx2 := Lib.hid (HGO.out hc)
      have hc1 : (n : Int) < 60 := by have := hc.1; omega
      have hps : p < s.size := by have := hc.2.1; rw [HTL.out] at this; exact this
      have hqs : q < s.size := by omega
      have hxy : s[p] = s[q] := by
        have := hc.2.2
        rw [HAT.out p hps, HAT.out q hqs] at this
        exact UInt8.toNat_inj.1 (Option.some.inj this)
      have hps' : (p : Int) < s.size := by omega
      have hqs' : (q : Int) < s.size := by omega
      have hb : (((s[p]).toNat : Int) == ((s[q]).toNat : Int)) = true := by rw [hxy]; simp
      clear hc hxy
      generalize hx : s[p] = x at *
      generalize hy : s[q] = y at *
      go_wp2_with fail
      go_quiet (fail)
      go_wp2_with fail
      exact ⟨⟨n + 1, by go_num, by omega, hx2, O3.drewN _⟩, by simp [intOf]; omega⟩
    · have hx2 := HEND.out hc
      have hstop : decide (p < s.size) = false ∨ (decide (p < s.size) = true ∧ decide ((n : Int) < 60) = false) ∨
          (decide ((n : Int) < 60) = true ∧ decide (p < s.size) = true ∧ decide (q < s.size) = true ∧ ∃ (hp : p < s.size) (hq : q < s.size), (((s[p]).toNat : Int) == ((s[q]).toNat : Int)) = false) := by
        by_cases h2 : p < s.size
        · by_cases h1 : n < 60
          · refine .inr (.inr ⟨by simp; omega, by simp; omega, by simp; omega, h2, by omega, ?_⟩)
            rw [beq_eq_false_iff_ne]
            intro e
            apply hc
            refine ⟨h1, by rw [HTL.out]; exact h2, ?_⟩
            rw [HAT.out p h2, HAT.out q (by omega)]
            congr 1; omega
          · exact .inr (.inl ⟨by simp; omega, by simp; omega⟩)
        · exact .inl (by simp; omega)
      have HX2 := Lib.hid hx2
      clear hc hx2
      rcases hstop with h | ⟨h1, h2⟩ | ⟨h1, h2, h3, hp, hq, h4⟩
      · go_wp2_with fail
        go_quiet (fail)
        go_wp2_with fail
        go_ret
        exact ⟨by rw [← HX2.out]; rfl, O3.drewN _⟩
      · go_wp2_with fail
        go_quiet (fail)
        go_wp2_with fail
        go_ret
        exact ⟨by rw [← HX2.out]; rfl, O3.drewN _⟩
      · generalize hx : s[p] = x at *
        generalize hy : s[q] = y at *
        go_wp2_with fail
        go_quiet (fail)
        go_wp2_with fail
        go_ret
        exact ⟨by rw [← HX2.out]; rfl, O3.drewN _⟩
theorem best_step (t : List Nat) (a j : Nat) : best t a (j + 1) = if (best t a j).1 < mlen t a (j + 1) then (mlen t a (j + 1), j + 1) else best t a j := rfl
set_option maxRecDepth 100000 in
set_option maxHeartbeats 2000000 in
theorem stoks_calls (s : ByteArray) (hs : s.size ≤ 300) (w : World) : Calls Tryz.prog 145 #[.string s] w (GivesT w (tokens (chars s))) := by
  have htl : (chars s).length = s.size := chars_length s
  have hat := at_all s
  have h0 : tokens (chars s) = [] ++ toks (chars s) ((chars s).length - 0) 0 := rfl
  have hag := fun a k h1 h2 h3 w => again_calls s hs a k h1 h2 h3 w
  generalize chars s = t at *
  have HTL := Lib.hid htl
  have HAT := Lib.hid hat
  have H0 := Lib.hid h0
  have HAG := Lib.hid hag
  clear htl hat h0 hag
  go_enter Tryz.func145, Tryz.ntmps145
  go_wp2_with fail
  go_loopw [3, 4] (fun v x wr => ∃ (a : Nat) (done : List Tok), x = .int .i64 (a : Int) ∧ a ≤ s.size ∧ done.length ≤ a ∧ RowKit.Hid (tokens t = done ++ toks t (t.length - a) a) ∧ Own w.heap.size wr 117 3 v done.length (tokCells done) ∧ On w wr) (fun _ x _ => s.size - (intOf x).toNat)
  case atStart => exact ⟨0, [], rfl, by omega, by simp, H0, Own.new w 117 3 #[] 0 (Nat.zero_le _) rfl (Nat.le_refl _), (On.refl w).alloc _⟩
  case round =>
    obtain ⟨a, done, rfl, ha, hd, hT, hown, O⟩ := hrel
    by_cases hlt : a < s.size
    · obtain ⟨wo, hwo⟩ : ∃ wo : World, wo = wr := ⟨_, rfl⟩
      subst hwo
      have hts := toks_step t a (by rw [HTL.out]; exact hlt)
      have hhe : held t a (min 250 a) = if 3 ≤ (best t a (min 250 a)).1 then ⟨0, ((best t a (min 250 a)).1 : Nat), ((best t a (min 250 a)).2 : Nat)⟩ else ⟨(t.getD a 0 : Nat), 0, 0⟩ := rfl
      have HTS := Lib.hid hts
      have HHE := Lib.hid hhe
      have hm1 : min 250 a ≤ 250 := by omega
      have hm2 : min 250 a ≤ a := by omega
      have hm3 : min 250 a = 250 ∨ min 250 a = a := by omega
      clear hts hhe
      generalize min 250 a = m at *
      go_wp2_with fail
      go_loopw [5, 6, 7] (fun l f x wr => ∃ j : Nat, x = .int .i64 ((j : Int) + 1) ∧ j ≤ m ∧ l = .int .i64 ((best t a j).1 : Nat) ∧ f = .int .i64 ((best t a j).2 : Nat) ∧ On wo wr) (fun _ _ x _ => 251 - (intOf x).toNat)
      case atStart => exact ⟨0, rfl, by omega, rfl, rfl, On.refl _⟩
      case round =>
        obtain ⟨j, rfl, hj, rfl, rfl, O2⟩ := hrel
        have hle := best_le_60 t a j
        by_cases hjl : j < m
        · have hj1 : (j : Int) + 1 ≤ 250 := by omega
          have hj2 : (j : Int) + 1 ≤ a := by omega
          have hst := best_step t a j
          have hml := mlen_le t a (j + 1)
          have hc := HAG.out a (j + 1) (by omega) (by omega) hlt
          have HC := Lib.hid hc
          have HST := Lib.hid hst
          clear hst hc
          generalize best t a j = bj at *
          obtain ⟨L, F⟩ := bj
          simp only at hle HST
          generalize mlen t a (j + 1) = M at *
          go_wp2_with fail
          have hc2 := HC.out wr
          rw [show (((j + 1 : Nat) : Int)) = (j : Int) + 1 from by omega] at hc2
          refine hc2.mono ?_
          rintro e w3 ⟨rfl, O3⟩
          by_cases hLM : L < M
          · have hLM' : (L : Int) < M := by omega
            go_wp2_with fail
            refine ⟨⟨j + 1, by go_num, by omega, ?_, ?_, O2.call O3⟩, by simp [intOf]; omega⟩
            · rw [HST.out, if_pos hLM]
            · rw [HST.out, if_pos hLM]; go_num
          · have hLM' : ¬ (L : Int) < M := by omega
            go_wp2_with fail
            refine ⟨⟨j + 1, by go_num, by omega, ?_, ?_, O2.call O3⟩, by simp [intOf]; omega⟩
            · rw [HST.out, if_neg hLM]
            · rw [HST.out, if_neg hLM]
        · obtain rfl : j = m := by omega
          have hstop : decide ((j : Int) + 1 ≤ 250) = false ∨ (decide ((j : Int) + 1 ≤ 250) = true ∧ decide ((j : Int) + 1 ≤ (a : Int)) = false) := by
            by_cases h : (j : Int) + 1 ≤ 250
            · exact .inr ⟨by simpa using h, by simp; omega⟩
            · exact .inl (by simpa using h)
          have hown2 := hown.on O2
          have O4 := O.call O2
          obtain ⟨i0, hi, hz0, hz1, hz2⟩ := info_parts tokinfo
          have hdl : done.length ≤ 300 := by omega
          have hHT := HTS.out
          rw [HHE.out] at hHT
          have HHT := Lib.hid hHT
          clear hHT hown
          generalize best t a j = bj at *
          obtain ⟨L, F⟩ := bj
          simp only at hle HHT
          obtain ⟨b, hbb⟩ : ∃ b, s[a] = b := ⟨_, rfl⟩
          have hbt : t.getD a 0 = b.toNat := by rw [List.getD_eq_getElem?_getD, HAT.out a hlt, hbb]; rfl
          have HBT := Lib.hid hbt
          have hb256 : (b.toNat : Int) < 256 := by have := b.toNat_lt; omega
          clear hbt
          by_cases h3 : 3 ≤ L
          · have h3' : ¬ (L : Int) < 3 := by omega
            have hHT := HHT.out
            rw [if_pos h3] at hHT
            simp only [Int.toNat_natCast] at hHT
            rw [show max L 1 = L from by omega] at hHT
            have HHT2 := Lib.hid hHT
            clear HHT hHT
            rcases hstop with h | ⟨h, h'⟩
            all_goals
              go_wp2_with (at_builtin; go_must (refine wpList_app rfl _ _ 114 rfl w i0 (.agg #[.int .i64 0, .int .i64 0, .int .i64 0]) 24 3 Tryz.underlying114 hi hz0 hz1 hz2 rfl (by decide) rfl _ _ _ rfl hown2 O4 rfl (by simp [Value.oneCell']) (by unfold maxLen; omega) (by omega) ?_); intro v' w2 hown' O' hk)
              go_roundw
              case rel =>
                obtain ⟨e1, e2⟩ := HHT2.out
                refine ⟨a + L, done ++ [⟨0, (L : Int), (F : Int)⟩], by go_num, by rw [HTL.out] at e2; exact e2, by rw [List.length_append, List.length_singleton]; omega, Lib.hid (by rw [hT.out, e1, List.append_assoc]; rfl), ?_, O'⟩
                rw [List.length_append, List.length_singleton, tokCells_snoc]
                exact hown'
              case measure => simp [intOf]; omega
          · have h3' : (L : Int) < 3 := by omega
            have hHT := HHT.out
            rw [if_neg h3] at hHT
            simp only at hHT
            rw [show max (Int.toNat 0) 1 = 1 from rfl, HBT.out] at hHT
            have HHT2 := Lib.hid hHT
            clear HHT hHT
            rcases hstop with h | ⟨h, h'⟩
            all_goals
              go_wp2_with (at_builtin; go_must (refine wpList_app rfl _ _ 114 rfl w i0 (.agg #[.int .i64 0, .int .i64 0, .int .i64 0]) 24 3 Tryz.underlying114 hi hz0 hz1 hz2 rfl (by decide) rfl _ _ _ rfl hown2 O4 rfl (by simp [Value.oneCell']) (by unfold maxLen; omega) (by omega) ?_); intro v' w2 hown' O' hk)
              go_roundw
              case rel =>
                obtain ⟨e1, e2⟩ := HHT2.out
                refine ⟨a + 1, done ++ [⟨(b.toNat : Int), 0, 0⟩], by go_num, by rw [HTL.out] at e2; exact e2, by rw [List.length_append, List.length_singleton]; omega, Lib.hid (by rw [hT.out, e1, List.append_assoc]; rfl), ?_, O'⟩
                rw [List.length_append, List.length_singleton, tokCells_snoc]
                exact hown'
              case measure => simp [intOf]; omega
    · obtain rfl : a = s.size := by omega
      have hT2 := hT.out
      rw [toks_end t _ (by rw [HTL.out]; exact Nat.le_refl _), List.append_nil] at hT2
      have HT2 := Lib.hid hT2
      obtain ⟨g, cap, rfl, hg, R, hn1, hcap, hlen⟩ := hown.parts
      clear hT2
      go_wp2_with fail
      go_ret
      refine ⟨g, cap, ?_, ?_, ?_, hcap, hg, O⟩
      · rw [HT2.out]; rfl
      · rw [HT2.out]; exact R
      · rw [HT2.out]; exact hn1
end Go.Proofs.YtnadjlejlohgiaaGreatDoor.Wi

