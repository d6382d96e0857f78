/- Own texts joined: Nb, Cr, Lo, So, Rp, Rg, Sp. -/
import Derived.WalkKit
import Derived.WalkSpells
import Derived.Deep.DeepCutAuto
import Derived.Test.YtnadjlejlohgiaaGreatDoorChecked
import Derived.Lib.Hide
import Derived.Deep.QuietTactic
import Derived.BigQuiet
import Derived.Deep.RegionHeld3
import Derived.Carry
import Derived.Test.YtnadjlejlohgiaaGreatDoorS0
import Derived.Test.YtnadjlejlohgiaaGreatDoorS1
import Derived.Test.YtnadjlejlohgiaaGreatDoorS10
import Derived.Test.YtnadjlejlohgiaaGreatDoorS11
import Derived.Test.YtnadjlejlohgiaaGreatDoorS12
import Derived.Test.YtnadjlejlohgiaaGreatDoorS13
import Derived.Test.YtnadjlejlohgiaaGreatDoorS18
import Derived.Test.YtnadjlejlohgiaaGreatDoorS19
import Derived.Test.YtnadjlejlohgiaaGreatDoorS20
import Derived.Test.YtnadjlejlohgiaaGreatDoorS21
import Derived.Test.YtnadjlejlohgiaaGreatDoorS22
/- Numbers as bytes, the least first: both programs' ways to write one and to read one. -/
namespace Go.Proofs.YtnadjlejlohgiaaGreatDoor.Nb
open Go.RowKit Go.Proofs.YtnadjlejlohgiaaGreatDoor.Mem
set_option linter.unusedVariables false
set_option linter.unusedSimpArgs false
/-- A number's bytes. -/
def numB (n v : Nat) : List Nat := (List.range n).map fun i => v / 256 ^ i % 256
theorem numB_length (n v : Nat) : (numB n v).length = n := by unfold numB; rw [List.length_map, List.length_range]
theorem numB_succ (n v : Nat) : numB (n + 1) v = numB n v ++ [v / 256 ^ n % 256] := by
  unfold numB
  rw [List.range_succ, List.map_append]; rfl
theorem numB_lt (n v : Nat) : ∀ x ∈ numB n v, x < 256 := by
  intro x hx
  unfold numB at hx
  obtain ⟨i, _, rfl⟩ := List.mem_map.1 hx
  exact Nat.mod_lt _ (by decide)
theorem div_step (v k : Nat) : v / 256 ^ k / 256 = v / 256 ^ (k + 1) := by rw [Nat.div_div_eq_div_mul, Nat.pow_succ]
/-- What bytes tell. -/
def numOf : List Nat → Nat
  | [] => 0
  | x :: l => x + 256 * numOf l
theorem numOf_lt : ∀ {l : List Nat}, (∀ x ∈ l, x < 256) → numOf l < 256 ^ l.length
  | [], _ => by simp [numOf]
  | x :: l, h => by
    have h1 := numOf_lt (l := l) fun y hy => h y (List.mem_cons_of_mem _ hy)
    have h2 := h x List.mem_cons_self
    rw [numOf, List.length_cons, Nat.pow_succ]
    omega
theorem wr8 (n : Int) (h₀ : 0 ≤ n) (h₁ : n < 256) : IntKind.u8.wrap n = n := by
  have e : IntKind.u8.wrap n = n % 256 := rfl
  rw [e]; omega
theorem bytes_new (w : World) : Bytes (w.alloc (.cells #[] 5)) w.heap.size (.slice (some ⟨w.heap.size, 0, none⟩) 0 0) [] := by
  refine ⟨?_, fun g hg => by simp [Value.ownBlock] at hg; exact hg.symm⟩
  exact World.ownsRow_lit w (base := 0) (e := 5) (size := 1) #[] 0 (Nat.zero_le _) (by unfold maxLen; omega) (by simp)
/-- s = append(s, x), whatever the byte's spelling. -/
theorem wpList_byteI {ops : Array Oper} {rest : List Oper} {o : Oper} {act : Act} {Q : Exit → Act → World → Prop} {wr : World} {xi : Int} (hgd : o.guard = none) (s y : Operand)
    (ho : o.op = .call { callee := .builtin .append, args := #[s, y], argTypes := #[28, 28] })
    {r : Nat} {v : Value} {l : List Nat} (x : Nat) (hxi : xi = (x : Int)) (hs : act.eval s = v) (hby : Bytes wr r v l) (hx : act.eval y = .slice (some ⟨wr.heap.size, 0, none⟩) 1 1) (hl : l.length ≤ 100000000)
    (h : ∀ r2 cap w1, Bytes w1 r2 (.slice (some ⟨r2, 0, none⟩) (l.length + 1) cap) (l ++ [x]) → (r2 = r ∨ wr.heap.size ≤ r2) → r2 < w1.heap.size → Kp [r] wr w1 → l.length + 1 ≤ cap → cap ≤ maxLen →
      wpList Tryz.prog ops Q rest (act.put o.dst (.slice (some ⟨r2, 0, none⟩) (l.length + 1) cap)) w1) :
    wpList Tryz.prog ops Q (o :: rest) act (wr.alloc (.cells #[.int .u8 xi] 5)) := by
  subst hxi
  exact wpList_byte hgd s y ho hs hby hx hl h
set_option maxRecDepth 100000 in
set_option maxHeartbeats 1000000 in
theorem inumber_calls (v n : Nat) (hv : v < 9223372036854775808) (hn : n ≤ 100) (w : World) :
    Calls Tryz.prog 64 #[.int .i64 v, .int .i64 n] w (fun e w' => e = .returned (.string (strB (numB n v))) ∧ On w w') := by
  have O0 := (On.refl w).alloc (.cells #[] 5)
  have B0 := bytes_new w
  have hz : w.heap.size ≤ w.heap.size := Nat.le_refl _
  go_enter Tryz.func64, Tryz.ntmps64
  go_wp2_with fail
  generalize hr0 : w.heap.size = r0 at B0 hz
  go_loopw [0, 5, 8] (fun u o x wr => ∃ (k r cap : Nat), x = .int .i64 k ∧ k ≤ n ∧ u = .int .i64 (v / 256 ^ k : Nat) ∧ o = .slice (some ⟨r, 0, none⟩) k cap ∧ Bytes wr r (.slice (some ⟨r, 0, none⟩) k cap) (numB k v) ∧ On w wr ∧ w.heap.size ≤ r) (fun _ _ x _ => n - (intOf x).toNat)
  case atStart => exact ⟨0, r0, 0, rfl, by omega, by simp, rfl, B0, O0, by omega⟩
  case round =>
    obtain ⟨k, r, cap, rfl, hk, rfl, rfl, hby, O, hr⟩ := hrel
    by_cases hlt : k < n
    · have HV := Lib.hid (div_step v k)
      have HB := Lib.hid (numB_succ k v)
      have hu : v / 256 ^ k < 9223372036854775808 := Nat.lt_of_le_of_lt (Nat.div_le_self _ _) hv
      generalize v / 256 ^ k = u at *
      have e1 : IntKind.u8.wrap ((u : Int) % 256) = ((u % 256 : Nat) : Int) := by rw [wr8 _ (by omega) (by omega)]; rfl
      have hl : (numB k v).length = k := numB_length k v
      have HL := Lib.hid hl
      clear hl
      generalize numB k v = l at *
      go_wp2_with (at_builtin; go_must (refine wpList_byteI rfl _ _ rfl (u % 256) (Int.natCast_emod u 256).symm rfl hby rfl (by rw [HL.out]; omega) ?_); intro r2 cap2 w2 hby2 hr2 hrl2 K2 hc1 hc2)
      exact ⟨⟨k + 1, r2, cap2, by go_num, by omega, by rw [← HV.out]; rfl, by rw [HL.out], by rw [HB.out]; rw [HL.out] at hby2; exact hby2, K2.on O (fun x hx => by simp at hx; omega), by have := O.size; omega⟩, by simp [intOf]; omega⟩
    · obtain rfl : k = n := by omega
      have cv := bytes_conv hby
      go_wp2_with fail
      go_ret
      exact ⟨rfl, O⟩
set_option maxRecDepth 100000 in
set_option maxHeartbeats 1000000 in
theorem sbytes_calls (v n : Nat) (hv : v < 9223372036854775808) (hn : n ≤ 100) (w : World) :
    Calls Tryz.prog 56 #[.int .i64 v, .int .i64 n] w (fun e w' => e = .returned (.string (strB (numB n v))) ∧ On w w') := by
  have O0 := (On.refl w).alloc (.cells #[] 5)
  have B0 := bytes_new w
  have hz : w.heap.size ≤ w.heap.size := Nat.le_refl _
  go_enter Tryz.func56, Tryz.ntmps56
  go_wp2_with fail
  generalize hr0 : w.heap.size = r0 at B0 hz
  go_loopw [0, 5, 6] (fun u o x wr => ∃ (k r cap : Nat), x = .int .i64 k ∧ k ≤ n ∧ u = .int .i64 (v / 256 ^ k : Nat) ∧ o = .slice (some ⟨r, 0, none⟩) k cap ∧ Bytes wr r (.slice (some ⟨r, 0, none⟩) k cap) (numB k v) ∧ On w wr ∧ w.heap.size ≤ r) (fun _ _ x _ => n - (intOf x).toNat)
  case atStart => exact ⟨0, r0, 0, rfl, by omega, by simp, rfl, B0, O0, by omega⟩
  case round =>
    obtain ⟨k, r, cap, rfl, hk, rfl, rfl, hby, O, hr⟩ := hrel
    by_cases hlt : k < n
    · have HV := Lib.hid (div_step v k)
      have HB := Lib.hid (numB_succ k v)
      have hu : v / 256 ^ k < 9223372036854775808 := Nat.lt_of_le_of_lt (Nat.div_le_self _ _) hv
      generalize v / 256 ^ k = u at *
      have e1 : IntKind.u8.wrap ((u : Int) % 256) = ((u % 256 : Nat) : Int) := by rw [wr8 _ (by omega) (by omega)]; rfl
      have hl : (numB k v).length = k := numB_length k v
      have HL := Lib.hid hl
      clear hl
      generalize numB k v = l at *
      go_wp2_with (at_builtin; go_must (refine wpList_byteI rfl _ _ rfl (u % 256) (Int.natCast_emod u 256).symm rfl hby rfl (by rw [HL.out]; omega) ?_); intro r2 cap2 w2 hby2 hr2 hrl2 K2 hc1 hc2)
      exact ⟨⟨k + 1, r2, cap2, by go_num, by omega, by rw [← HV.out]; rfl, by rw [HL.out], by rw [HB.out]; rw [HL.out] at hby2; exact hby2, K2.on O (fun x hx => by simp at hx; omega), by have := O.size; omega⟩, by simp [intOf]; omega⟩
    · obtain rfl : k = n := by omega
      have cv := bytes_conv hby
      go_wp2_with fail
      go_ret
      exact ⟨rfl, O⟩
def at_ (s : ByteArray) (a k n : Nat) : Nat := numOf (((s.data.toList.map UInt8.toNat).drop (a + k)).take (n - k))
theorem at_step (s : ByteArray) {a k n : Nat} (hk : k < n) (h : a + n ≤ s.size) : (256 * at_ s a (k + 1) n + s[a + k].toNat) = at_ s a k n := by
  have hl : a + k < (s.data.toList.map UInt8.toNat).length := by rw [List.length_map, Array.length_toList]; show a + k < s.size; omega
  unfold at_
  rw [List.drop_eq_getElem_cons hl, show n - k = (n - (k + 1)) + 1 from by omega, List.take_succ_cons, numOf, List.getElem_map, show a + k + 1 = a + (k + 1) from by omega, Nat.add_comm]
  rfl
theorem at_lt (s : ByteArray) (a k n : Nat) (h3 : n - k ≤ 3) : at_ s a k n < 16777216 := by
  unfold at_
  refine Nat.lt_of_lt_of_le (numOf_lt fun x hx => ?_) (Nat.le_trans (Nat.pow_le_pow_right (by decide) (List.length_take_le _ _)) (Nat.le_trans (Nat.pow_le_pow_right (by decide) h3) (by decide)))
  obtain ⟨y, _, rfl⟩ := List.mem_map.1 (List.mem_of_mem_drop (List.mem_of_mem_take hx))
  exact y.toNat_lt
/-- The number that a text has from a place on. -/
def numAtB (s : ByteArray) (a n : Nat) : Nat := at_ s a 0 n
theorem at_end (s : ByteArray) (a n : Nat) : at_ s a n n = 0 := by unfold at_; rw [Nat.sub_self]; rfl
end Go.Proofs.YtnadjlejlohgiaaGreatDoor.Nb

/- The checksum of a text, both programs'. -/
namespace Go.Proofs.YtnadjlejlohgiaaGreatDoor.Cr
open Go.RowKit Go.Proofs.YtnadjlejlohgiaaGreatDoor.Mem
set_option linter.unusedVariables false
set_option linter.unusedSimpArgs false
def bitC (c : Nat) : Nat := if c % 2 = 1 then (c / 2) ^^^ 3988292384 else c / 2
def runC : Nat → Nat → Nat
  | 0, c => c
  | k + 1, c => bitC (runC k c)
def stepC (c b : Nat) : Nat := runC 8 (c ^^^ b)
def crcC (l : List Nat) : Nat := l.foldl stepC 4294967295 ^^^ 4294967295
theorem bitC_lt {c : Nat} (h : c < 4294967296) : bitC c < 4294967296 := by
  unfold bitC
  split
  · exact Nat.xor_lt_two_pow (n := 32) (by omega) (by decide)
  · omega
theorem runC_lt {c : Nat} (h : c < 4294967296) : ∀ k, runC k c < 4294967296
  | 0 => h
  | k + 1 => bitC_lt (runC_lt h k)
theorem stepC_lt {c b : Nat} (h : c < 4294967296) (hb : b < 256) : stepC c b < 4294967296 := runC_lt (Nat.xor_lt_two_pow (n := 32) (by omega) (by omega)) _
theorem xor32 {a b : Nat} (ha : a < 4294967296) (hb : b < 4294967296) : Go.bits .xor .u32 (a : Int) (b : Int) = ((a ^^^ b : Nat) : Int) := by
  have hx := Nat.xor_lt_two_pow (n := 32) (x := a) (y := b) (by omega) (by omega)
  have ha' : a % 2 ^ IntKind.u32.bits = a := by show a % 2 ^ 32 = a; omega
  have hb' : b % 2 ^ IntKind.u32.bits = b := by show b % 2 ^ 32 = b; omega
  simp only [Go.bits, BitVec.ofInt_natCast, BitVec.toNat_xor, BitVec.toNat_ofNat, ha', hb']
  rw [IntKind.wrap_u32]
  omega
theorem and1 {a : Nat} (ha : a < 4294967296) : Go.bits .and .u32 (a : Int) 1 = ((a % 2 : Nat) : Int) := by
  have ha' : a % 2 ^ IntKind.u32.bits = a := by show a % 2 ^ 32 = a; omega
  have hb' : 1 % 2 ^ IntKind.u32.bits = 1 := by decide
  rw [show (1 : Int) = ((1 : Nat) : Int) from rfl]
  simp only [Go.bits, BitVec.ofInt_natCast, BitVec.toNat_and, BitVec.toNat_ofNat, ha', hb', Nat.and_one_is_mod]
  rw [IntKind.wrap_u32]
  omega
theorem not32 {a : Nat} (ha : a < 4294967296) : Go.bits .xor .u32 IntKind.u32.max (a : Int) = ((a ^^^ 4294967295 : Nat) : Int) := by
  rw [show IntKind.u32.max = ((4294967295 : Nat) : Int) from by decide, xor32 (by decide) ha, Nat.xor_comm]
theorem bit32 {v : Nat} (hv : v < 4294967296) : Go.bits .xor .u32 ((v : Int) / 2) (3988292384 * ((v : Int) % 2)) = ((bitC v : Nat) : Int) := by
  unfold bitC
  rcases Nat.mod_two_eq_zero_or_one v with h | h
  · rw [if_neg (by omega), show (3988292384 * ((v : Int) % 2)) = ((0 : Nat) : Int) from by omega]
    have := xor32 (a := v / 2) (b := 0) (by omega) (by decide)
    rw [Nat.xor_zero] at this
    exact this
  · rw [if_pos h, show (3988292384 * ((v : Int) % 2)) = ((3988292384 : Nat) : Int) from by omega]
    exact xor32 (a := v / 2) (b := 3988292384) (by omega) (by decide)
set_option maxRecDepth 100000 in
theorem step_calls (c b : Nat) (hc : c < 4294967296) (hb : b < 256) (w : World) :
    Calls Tryz.prog 121 #[.int .u32 c, .int .u8 b] w (fun e w' => e = .returned (.int .u32 (stepC c b : Nat)) ∧ w' = w) := by
  have hx := xor32 hc (b := b) (by omega)
  have hcb : c ^^^ b < 4294967296 := Nat.xor_lt_two_pow (n := 32) (by omega) (by omega)
  unfold stepC
  generalize c ^^^ b = c0 at *
  go_enter Tryz.func121, Tryz.ntmps121
  go_upto_region 2 with fail
  clear hx
  go_wp2_with fail
  go_loopw [0, 5] (fun v x wr => ∃ k : Nat, x = .int .i64 k ∧ k ≤ 8 ∧ v = .int .u32 (runC k c0 : Nat) ∧ wr = w) (fun _ x _ => 8 - (intOf x).toNat)
  case atStart => exact ⟨0, rfl, by omega, rfl, rfl⟩
  case round =>
    obtain ⟨k, rfl, hk, rfl, rfl⟩ := hrel
    have hl := runC_lt hcb k
    have hs : bitC (runC k c0) = runC (k + 1) c0 := rfl
    by_cases hlt : k < 8
    · generalize runC k c0 = v at *
      have HX2 := Lib.hid (show Go.bits .xor .u32 ((v : Int) / 2) 3988292384 = (((v / 2) ^^^ 3988292384 : Nat) : Int) from xor32 (a := v / 2) (b := 3988292384) (by omega) (by omega))
      unfold bitC at hs
      by_cases h1 : v % 2 = 1
      · rw [if_pos h1] at hs
        have HS := Lib.hid hs
        clear hs
        go_wp2_with fail
        exact ⟨⟨k + 1, by go_num, by omega, by rw [HX2.out, HS.out], trivial⟩, by simp [intOf]; omega⟩
      · rw [if_neg h1] at hs
        have HS := Lib.hid hs
        clear hs
        go_wp2_with fail
        exact ⟨⟨k + 1, by go_num, by omega, by rw [← HS.out]; rfl, trivial⟩, by simp [intOf]; omega⟩
    · obtain rfl : k = 8 := by omega
      clear hs
      generalize hv : runC 8 c0 = v at *
      have HV := Lib.hid hv
      clear hv
      go_wp2_with fail
      go_ret
      exact ⟨by rw [HV.out]; rfl, rfl⟩
def crcTo (s : ByteArray) (k : Nat) : Nat := ((s.data.toList.map UInt8.toNat).take k).foldl stepC 4294967295
theorem crcTo_succ (s : ByteArray) {k : Nat} (h : k < s.size) : stepC (crcTo s k) s[k].toNat = crcTo s (k + 1) := by
  have hl : k < (s.data.toList.map UInt8.toNat).length := by rw [List.length_map, Array.length_toList]; exact h
  unfold crcTo
  rw [List.take_succ_eq_append_getElem hl, List.foldl_append, List.getElem_map]
  rfl
theorem crcTo_lt (s : ByteArray) : ∀ k, crcTo s k < 4294967296 := by
  intro k
  unfold crcTo
  have : ∀ (l : List Nat) c, (∀ x ∈ l, x < 256) → c < 4294967296 → l.foldl stepC c < 4294967296 := by
    intro l
    induction l with
    | nil => intro c _ h; exact h
    | cons a l ih => intro c hl h; exact ih _ (fun x hx => hl x (List.mem_cons_of_mem _ hx)) (stepC_lt h (hl a (List.mem_cons_self)))
  refine this _ _ (fun x hx => ?_) (by decide)
  obtain ⟨y, _, rfl⟩ := List.mem_map.1 (List.mem_of_mem_take hx)
  exact y.toNat_lt
theorem crcTo_all (s : ByteArray) : crcTo s s.size ^^^ 4294967295 = crcC (s.data.toList.map UInt8.toNat) := by
  unfold crcTo crcC
  rw [List.take_of_length_le (by rw [List.length_map, Array.length_toList]; exact Nat.le_refl _)]
theorem crcC_lt (s : ByteArray) : crcC (s.data.toList.map UInt8.toNat) < 4294967296 := by
  rw [← crcTo_all]; exact Nat.xor_lt_two_pow (n := 32) (crcTo_lt s _) (by decide)
set_option maxRecDepth 100000 in
theorem more_calls (s : ByteArray) (hs : s.size ≤ 4294967296) (w : World) :
    Calls Tryz.prog 85 #[.int .u32 0, .string s] w (fun e w' => e = .returned (.int .u32 (crcC (s.data.toList.map UInt8.toNat) : Nat)) ∧ w' = w) := by
  have HR := Lib.hid (crcTo_all s)
  generalize crcC (s.data.toList.map UInt8.toNat) = R at *
  have hx0 : Go.bits .xor .u32 0 4294967295 = 4294967295 := by decide
  go_enter Tryz.func85, Tryz.ntmps85
  go_wp2_with fail
  clear hx0
  go_loopw [5, 6] (fun v x wr => ∃ k : Nat, x = .int .i64 k ∧ k ≤ s.size ∧ v = .int .u32 (crcTo s k : Nat) ∧ wr = w) (fun _ x _ => s.size - (intOf x).toNat)
  case atStart => exact ⟨0, rfl, by omega, rfl, rfl⟩
  case round =>
    obtain ⟨k, rfl, hk, rfl, rfl⟩ := hrel
    have hc := crcTo_lt s k
    by_cases hlt : k < s.size
    · have HN := Lib.hid (crcTo_succ s hlt)
      have hb : s[k].toNat < 256 := s[k].toNat_lt
      have HC := Lib.hid (fun w => step_calls (crcTo s k) s[k].toNat hc hb w)
      generalize crcTo s k = v at *
      go_wp2_with fail
      refine (HC.out _).mono ?_
      rintro e w' ⟨rfl, rfl⟩
      go_wp2_with fail
      exact ⟨⟨k + 1, by go_num, by omega, by rw [HN.out], trivial⟩, by simp [intOf]; omega⟩
    · obtain rfl : k = s.size := by omega
      have HX := Lib.hid (xor32 hc (b := 4294967295) (by decide))
      generalize crcTo s s.size = v at *
      go_wp2_with fail
      go_ret
      exact ⟨by rw [← HR.out, ← HX.out]; rfl, rfl⟩
set_option maxRecDepth 100000 in
theorem scrc_calls (s : ByteArray) (hs : s.size ≤ 4294967296) (w : World) :
    Calls Tryz.prog 59 #[.string s] w (fun e w' => e = .returned (.int .i64 (crcC (s.data.toList.map UInt8.toNat) : Nat)) ∧ w' = w) := by
  have hl := crcC_lt s
  have HC := Lib.hid (fun w => more_calls s hs w)
  generalize crcC (s.data.toList.map UInt8.toNat) = R at *
  go_enter Tryz.func59, Tryz.ntmps59
  go_wp2_with fail
  refine (HC.out _).mono ?_
  rintro e w' ⟨rfl, rfl⟩
  go_wp2_with fail
  go_ret
  exact ⟨rfl, rfl⟩
set_option maxRecDepth 100000 in
set_option maxHeartbeats 1000000 in
theorem update_calls (s : ByteArray) (hs : s.size ≤ 4294967296) (w : World) :
    Calls Tryz.prog 54 #[.int .u32 0, .string s] w (fun e w' => e = .returned (.int .u32 (crcC (s.data.toList.map UInt8.toNat) : Nat)) ∧ w' = w) := by
  have HR := Lib.hid (crcTo_all s)
  generalize crcC (s.data.toList.map UInt8.toNat) = R at *
  go_enter Tryz.func54, Tryz.ntmps54
  go_wp2_with fail
  go_loopw [0, 5] (fun v x wr => ∃ k : Nat, x = .int .i64 k ∧ k ≤ s.size ∧ v = .int .u32 (crcTo s k : Nat) ∧ wr = w) (fun _ x _ => s.size - (intOf x).toNat)
  case atStart => exact ⟨0, rfl, by omega, rfl, rfl⟩
  case round =>
    obtain ⟨k, rfl, hk, rfl, rfl⟩ := hrel
    have hc := crcTo_lt s k
    by_cases hlt : k < s.size
    · have HN := Lib.hid (crcTo_succ s hlt)
      have hb : s[k].toNat < 256 := s[k].toNat_lt
      have hx := xor32 hc (b := s[k].toNat) (by omega)
      have hcb : crcTo s k ^^^ s[k].toNat < 4294967296 := Nat.xor_lt_two_pow (n := 32) (by omega) (by omega)
      unfold stepC at HN
      generalize crcTo s k = v at *
      go_wp2_with fail
      clear hx
      generalize v ^^^ s[k].toNat = c0 at *
      go_loopw [0, 20] (fun v x wr' => ∃ i : Nat, x = .int .i64 i ∧ i ≤ 8 ∧ v = .int .u32 (runC i c0 : Nat) ∧ wr' = wr) (fun _ x _ => 8 - (intOf x).toNat)
      case atStart => exact ⟨0, rfl, by omega, rfl, rfl⟩
      case round =>
        obtain ⟨i, rfl, hi, rfl, rfl⟩ := hrel
        have hl := runC_lt hcb i
        have hs : bitC (runC i c0) = runC (i + 1) c0 := rfl
        by_cases hlt : i < 8
        · generalize runC i c0 = v at *
          have HX2 := Lib.hid (bit32 hl)
          have ha := and1 hl
          have HS := Lib.hid hs
          clear hs
          go_wp2_with fail
          exact ⟨⟨i + 1, by go_num, by omega, by rw [HX2.out, HS.out], trivial⟩, by simp [intOf]; omega⟩
        · obtain rfl : i = 8 := by omega
          clear hs
          go_wp2_with fail
          exact ⟨⟨k + 1, by go_num, by omega, by rw [HN.out], trivial⟩, by simp [intOf]; omega⟩
    · obtain rfl : k = s.size := by omega
      have HX := Lib.hid (not32 hc)
      generalize crcTo s s.size = v at *
      go_wp2_with fail
      go_ret
      exact ⟨by rw [← HR.out, ← HX.out]; rfl, rfl⟩
set_option maxRecDepth 100000 in
theorem icrc_calls (s : ByteArray) (hs : s.size ≤ 4294967296) (w : World) :
    Calls Tryz.prog 25 #[.string s] w (fun e w' => e = .returned (.int .i64 (crcC (s.data.toList.map UInt8.toNat) : Nat)) ∧ w' = w) := by
  have hl := crcC_lt s
  have HC := Lib.hid (fun w => update_calls s hs w)
  generalize crcC (s.data.toList.map UInt8.toNat) = R at *
  go_enter Tryz.func25, Tryz.ntmps25
  go_wp2_with fail
  refine (HC.out _).mono ?_
  rintro e w' ⟨rfl, rfl⟩
  go_wp2_with fail
  go_ret
  exact ⟨rfl, rfl⟩
end Go.Proofs.YtnadjlejlohgiaaGreatDoor.Cr

/- What the program's LensOk answers: whether lengths make a code. Conditions: lengths and how many, not too great. -/
namespace Go.Proofs.YtnadjlejlohgiaaGreatDoor.Wi
open Go.RowKit Go.Proofs.YtnadjlejlohgiaaGreatDoor.Mem Go.Proofs.YtnadjlejlohgiaaGreatDoor.Bt Go.Proofs.YtnadjlejlohgiaaGreatDoor.Cd
set_option linter.unusedVariables false
set_option linter.unusedSimpArgs false
theorem kraft_snoc (l : List Nat) (x : Nat) : kraft (l ++ [x]) = kraft l + if x = 0 then 0 else 2 ^ (15 - x) := by unfold kraft; simp
theorem used_snoc (l : List Nat) (x : Nat) : used (l ++ [x]) = used l + if 0 < x then 1 else 0 := by
  unfold used; rw [List.filter_append]; by_cases h : 0 < x <;> simp [h]
/-- What is known of lengths that have been gone through: a sum, how many, the last. -/
structure Sums (l : List Nat) (a b c : Nat) : Prop where mk ::
  sum : a = kraft l
  many : b = used l
  le : b = 0 → a = 0
  one : b = 1 → 1 ≤ c ∧ c ≤ 15 ∧ a = 2 ^ (15 - c)
theorem Sums.nil : Sums [] 0 0 0 := ⟨rfl, rfl, fun _ => rfl, fun h => by cases h⟩
theorem Sums.zero {l : List Nat} {a b c : Nat} (h : Sums l a b c) : Sums (l ++ [0]) a b c := ⟨by rw [kraft_snoc]; simpa using h.sum, by rw [used_snoc]; simpa using h.many, h.le, h.one⟩
theorem Sums.add {l : List Nat} {a b c x : Nat} (h : Sums l a b c) (h1 : 1 ≤ x) (h2 : x ≤ 15) : Sums (l ++ [x]) (a + 2 ^ (15 - x)) (b + 1) x :=
  ⟨by rw [kraft_snoc, if_neg (by omega), h.sum], by rw [used_snoc, if_pos (by omega), h.many], fun e => by omega, fun e => ⟨h1, h2, by rw [h.le (by omega), Nat.zero_add]⟩⟩
theorem Sums.ok {l : List Nat} {a b c : Nat} (h : Sums l a b c) (hl : l.length ≤ 300) (h15 : ∀ x ∈ l, x ≤ 15) : okLens l = (decide (a = 32768) || (decide (b = 1) && decide (c = 1))) := by
  unfold okLens
  rw [show decide (l.length ≤ 300) = true from by simpa using hl, show l.all (fun x => decide (x ≤ 15)) = true from by simpa using h15, ← h.sum, ← h.many]
  simp only [Bool.true_and]
  congr 1
  by_cases hb : b = 1
  · obtain ⟨o1, o2, o3⟩ := h.one hb
    congr 1
    rw [o3, Bool.eq_iff_iff]
    simp only [decide_eq_true_eq]
    constructor
    · intro e
      rcases Nat.lt_or_ge c 2 with h | h
      · omega
      · have : 2 ^ (15 - c) ≤ 2 ^ 13 := Nat.pow_le_pow_right (by omega) (by omega)
        omega
    · rintro rfl; rfl
  · simp [hb]
end Go.Proofs.YtnadjlejlohgiaaGreatDoor.Wi

/- What the specification's LensOk answers: whether lengths make a code. Conditions: lengths and how many, not too great. -/
namespace Go.Proofs.YtnadjlejlohgiaaGreatDoor.Wi
open Go.RowKit Go.Proofs.YtnadjlejlohgiaaGreatDoor.Mem Go.Proofs.YtnadjlejlohgiaaGreatDoor.Bt Go.Proofs.YtnadjlejlohgiaaGreatDoor.Cd
set_option linter.unusedVariables false
set_option linter.unusedSimpArgs false
set_option maxRecDepth 100000 in
theorem sused_calls (lens : List Nat) (g o n cap : Nat) (w : World) (hl : RowO w g o 3 (i64s lens)) (hn : lens.length = n) (hn2 : n ≤ 1000) (hnc : n ≤ cap) :
    Calls Tryz.prog 169 #[.slice (some ⟨g, o, none⟩) n cap] w fun e w' => e = .returned (.int .i64 (used lens : Nat)) ∧ On w w' := by
  have HN := Lib.hid hn
  clear hn
  go_enter Tryz.func169, Tryz.ntmps169
  go_wp2_with fail
  go_loopw [3, 4] (fun a x wr => ∃ (k : Nat), x = .int .i64 (k : Int) ∧ k ≤ n ∧ a = .int .i64 (used (lens.take k) : Nat) ∧ used (lens.take k) ≤ k ∧ On w wr) (fun _ x _ => n - (intOf x).toNat)
  case atStart => exact ⟨0, rfl, by omega, rfl, Nat.le_refl _, On.refl _⟩
  case round =>
    obtain ⟨k, rfl, hk, rfl, hu, O⟩ := hrel
    by_cases hlt : k < n
    · have hkl : k < lens.length := by rw [HN.out]; exact hlt
      have c0 := (hl.on O).cell (i64s_get hkl)
      have htk : lens.take (k + 1) = lens.take k ++ [lens.getD k 0] := by rw [List.take_succ_eq_append_getElem hkl, List.getD_eq_getElem?_getD, List.getElem?_eq_getElem hkl]; rfl
      have hus : used (lens.take (k + 1)) = used (lens.take k) + if 0 < lens.getD k 0 then 1 else 0 := by rw [htk, used_snoc]
      have HU := Lib.hid hus
      clear htk hus
      generalize lens.getD k 0 = x at *
      generalize used (lens.take k) = u at *
      have hk2 : (k : Int) < n := by omega
      by_cases h0 : 0 < x
      · have h0' : (0 : Int) < x := by omega
        go_wp2_with fail
        go_roundw
        case rel => exact ⟨k + 1, by go_num, by omega, by rw [HU.out, if_pos h0]; go_num, by rw [HU.out, if_pos h0]; omega, O⟩
        case measure => simp [intOf]; omega
      · have h0' : ¬ (0 : Int) < x := by omega
        go_wp2_with fail
        go_roundw
        case rel => exact ⟨k + 1, by go_num, by omega, by rw [HU.out, if_neg h0]; go_num, by rw [HU.out, if_neg h0]; omega, O⟩
        case measure => simp [intOf]; omega
    · obtain rfl : k = n := by omega
      have htk : lens.take k = lens := List.take_of_length_le (by rw [HN.out]; exact Nat.le_refl _)
      rw [htk] at *
      go_wp2_with fail
      go_ret
      exact ⟨rfl, O⟩
end Go.Proofs.YtnadjlejlohgiaaGreatDoor.Wi

/- The program's reader takes a part that is packed by both codes. Conditions: a reader, a row of bytes, rows of lengths. -/
namespace Go.Proofs.YtnadjlejlohgiaaGreatDoor.Wi
open Go.RowKit Go.Proofs.YtnadjlejlohgiaaGreatDoor.Mem Go.Proofs.YtnadjlejlohgiaaGreatDoor.Bt Go.Proofs.YtnadjlejlohgiaaGreatDoor.Cd Go.Proofs.YtnadjlejlohgiaaGreatDoor.De Go.Proofs.YtnadjlejlohgiaaGreatDoor.En
open Go.Proofs.YtnadjlejlohgiaaGreatDoor.Lz (copy)
set_option linter.unusedVariables false
set_option linter.unusedSimpArgs false
/-- Where the loop stands: what remains to be read. -/
structure Still (lit dist l0 : List Nat) (s : ByteArray) (p : Nat) (b0 : Bool) (l : List Nat) (q : Nat) (bb : Bool) : Prop where mk ::
  out : ∃ D : Dec (List Nat), (∀ l' p' b', AnsO D s q bb l' p' b' → AnsO (packed lit dist 302 l0) s p b0 l' p' b') ∧ l.length ≤ 400 ∧ ((l.length ≤ 300 ∧ ∃ f, 302 ≤ f + l.length ∧ D = packed lit dist f l) ∨ (300 < l.length ∧ D = De.bad))
section
variable {lit dist l0 l : List Nat} {s : ByteArray} {p q : Nat} {b0 bb : Bool}
theorem Still.start (h : l0.length ≤ 300) : Still lit dist l0 s p b0 l0 p b0 := ⟨_, fun _ _ _ h => h, by omega, .inl ⟨h, 302, by omega, rfl⟩⟩
theorem Still.bad (h : Still lit dist l0 s p b0 l q true) : AnsO (packed lit dist 302 l0) s p b0 l q true := by
  obtain ⟨D, h1, _⟩ := h.out
  exact h1 _ _ _ (AnsO.was _ _ _ _ _)
theorem AnsO.none {d : Dec (List Nat)} {p q : Nat} {l2 : List Nat} {p2 : Nat} {b2 : Bool} {s : ByteArray} (hd : d (rest s p) = Option.none) (h : AnsO (De.bad : Dec (List Nat)) s q false l2 p2 b2) : AnsO d s p false l2 p2 b2 :=
  ⟨fun _ => .inr hd, fun e => ⟨rfl, fun hl => (by have := (h.good e).2.1 hl; cases this), fun _ => hd⟩⟩
/-- A symbol has been taken. -/
theorem Still.sym {x q1 : Nat} {b1 : Bool} (h : Still lit dist l0 s p b0 l q bb) (hl : l.length ≤ 300) (ha : Ans (Cd.sym lit) s q bb x q1 b1) :
    ∃ f, 301 ≤ f + l.length ∧ ∀ l' p' b', AnsO (if x = 256 then ret l else if x < 256 then (if l.length < 300 then packed lit dist f (l ++ [x]) else De.bad) else next (again dist l (x - 257)) fun o => packed lit dist f o) s q1 b1 l' p' b' → AnsO (packed lit dist 302 l0) s p b0 l' p' b' := by
  obtain ⟨D, h1, h2, h3⟩ := h.out
  rcases h3 with ⟨_, f, hf, rfl⟩ | ⟨h4, _⟩
  · obtain ⟨f, rfl⟩ : ∃ g, f = g + 1 := ⟨f - 1, by omega⟩
    exact ⟨f, by omega, fun l' p' b' h5 => h1 _ _ _ (AnsO.next ha h5)⟩
  · omega
end
end Go.Proofs.YtnadjlejlohgiaaGreatDoor.Wi

/- The program unpacks a text: FlateGet. Conditions: the variable order as it is laid. -/
namespace Go.Proofs.YtnadjlejlohgiaaGreatDoor.Wi
open Go.RowKit Go.Proofs.YtnadjlejlohgiaaGreatDoor.Mem Go.Proofs.YtnadjlejlohgiaaGreatDoor.Bt Go.Proofs.YtnadjlejlohgiaaGreatDoor.Cd Go.Proofs.YtnadjlejlohgiaaGreatDoor.De
set_option linter.unusedVariables false
set_option linter.unusedSimpArgs false
/-- What remains behind the parts. -/
def tailOf (o : List Nat) : Dec (List Nat) := next align fun _ => ret o
/-- Where the loop over parts stands. -/
structure Goes (s : ByteArray) (l : List Nat) (q : Nat) (last : Bool) : Prop where mk ::
  more : last = false → ∃ f, 6000 ≤ f + q ∧ next (parts f l) tailOf (rest s q) = whole (rest s 0)
  done : last = true → tailOf l (rest s q) = whole (rest s 0)
theorem Goes.start (s : ByteArray) : Goes s [] 0 false := ⟨fun _ => ⟨6000, by omega, rfl⟩, fun e => by cases e⟩
/-- One part has been taken: how it goes on. -/
theorem Goes.part {s : ByteArray} {l : List Nat} {q q3 t lb : Nat} (h : Goes s l q false) (hq : q ≤ 5600) (h1 : num 1 (rest s q) = some (lb, rest s (q + 1))) (h2 : num 2 (rest s (q + 1)) = some (t, rest s (q + 3))) :
    (body t l (rest s (q + 3)) = none → whole (rest s 0) = none) ∧ ∀ o, body t l (rest s (q + 3)) = some (o, rest s q3) → q + 3 ≤ q3 → Goes s o q3 (lb == 1) := by
  obtain ⟨f, hf, he⟩ := h.more rfl
  obtain ⟨f, rfl⟩ : ∃ g, f = g + 1 := ⟨f - 1, by omega⟩
  refine ⟨fun hb => ?_, fun o hb hle => ?_⟩
  · rw [← he]
    refine next_none ?_
    unfold parts
    refine next_none ?_
    unfold De.part
    rw [next_some h1, next_some h2]
    exact next_none hb
  · have e : De.part l (rest s q) = some ((o, lb), rest s q3) := by
      unfold De.part
      rw [next_some h1, next_some h2, next_some hb]; rfl
    have e2 : next (parts (f + 1) l) tailOf (rest s q) = next (if lb = 1 then ret o else parts f o) tailOf (rest s q3) := by
      unfold next
      have : parts (f + 1) l (rest s q) = (if lb = 1 then ret o else parts f o) (rest s q3) := by
        show next (De.part l) (fun p => if p.2 = 1 then ret p.1 else parts f p.1) (rest s q) = _
        rw [next_some e]
      rw [this]
    rw [e2] at he
    by_cases hl : lb = 1
    · refine ⟨fun h => by simp [hl] at h, fun _ => ?_⟩
      rw [if_pos hl] at he
      rw [← he]; rfl
    · refine ⟨fun _ => ⟨f, by omega, ?_⟩, fun h => by simp [hl] at h⟩
      rw [if_neg hl] at he
      exact he
theorem suf_le {α : Type} {d : Dec α} (L : De.Loc d) {s : ByteArray} {q q3 : Nat} {x : α} (h : d (rest s q) = some (x, rest s q3)) (h1 : q ≤ 8 * s.size) (h3 : q3 ≤ 8 * s.size) : q ≤ q3 := by
  obtain ⟨e, he⟩ := L.suf _ _ _ h
  have := congrArg List.length he
  rw [List.length_append, rest_length, rest_length] at this
  omega
theorem Goes.none {s : ByteArray} {l : List Nat} {q : Nat} (h : Goes s l q false) (hq : q ≤ 5600) (hp : De.part l (rest s q) = Option.none) : whole (rest s 0) = Option.none := by
  obtain ⟨f, hf, he⟩ := h.more rfl
  obtain ⟨f, rfl⟩ : ∃ g, f = g + 1 := ⟨f - 1, by omega⟩
  rw [← he]
  refine next_none ?_
  unfold parts
  exact next_none hp
/-- One part, as the reader answers it. -/
theorem Goes.step {s : ByteArray} {l l' : List Nat} {q q1 q2 q3 lb t : Nat} {b1 b2 b3 : Bool} (h : Goes s l q false) (hq : q ≤ 5600) (A1 : Ans (num 1) s q false lb q1 b1) (A2 : Ans (num 2) s q1 b1 t q2 b2) (A3 : AnsO (body t l) s q2 b2 l' q3 b3)
    (e1 : b1 = false → q1 = q + 1) (e2 : b2 = false → q2 = q1 + 2) (hle : b3 = false → l'.length ≤ 300 → q2 ≤ q3) :
    (b3 = true → whole (rest s 0) = Option.none) ∧ (b3 = false → 300 < l'.length → whole (rest s 0) = Option.none) ∧ (b3 = false → l'.length ≤ 300 → Goes s l' q3 (lb == 1)) := by
  have hb2 : b2 = true → whole (rest s 0) = Option.none := fun e => by
    refine h.none hq ?_
    rcases (Ans.next A1 (k := fun _ => num 2) A2).bad e with c | c
    · cases c
    · unfold De.part
      cases hn : num 1 (rest s q) with
      | none => exact next_none hn
      | some y =>
        rw [next_some hn]
        rw [next_some hn] at c
        exact next_none c
  have hg : b2 = false → num 1 (rest s q) = some (lb, rest s (q + 1)) ∧ num 2 (rest s (q + 1)) = some (t, rest s (q + 3)) ∧ q2 = q + 3 := fun e => by
    obtain ⟨c1, c2⟩ := A2.good e
    obtain ⟨_, c3⟩ := A1.good c1
    have f1 := e1 c1
    have f2 := e2 e
    subst f1
    rw [show q2 = q + 3 from by omega] at c2
    exact ⟨c3, c2, by omega⟩
  have hgo : b2 = false → (body t l (rest s (q + 3)) = Option.none → whole (rest s 0) = Option.none) ∧ ∀ o, body t l (rest s (q + 3)) = some (o, rest s q3) → q + 3 ≤ q3 → Goes s o q3 (lb == 1) := fun e => by
    obtain ⟨n1, n2, _⟩ := hg e
    exact h.part hq n1 n2
  refine ⟨fun e => ?_, fun e hl => ?_, fun e hl => ?_⟩
  · rcases A3.bad e with c | c
    · exact hb2 c
    · cases hb : b2 with
      | true => exact hb2 hb
      | false => rw [(hg hb).2.2] at c; exact (hgo hb).1 c
  · obtain ⟨c1, _, c3⟩ := A3.good e
    have := c3 hl
    rw [(hg c1).2.2] at this
    exact (hgo c1).1 this
  · obtain ⟨c1, c2, _⟩ := A3.good e
    have h2 := c2 hl
    have h3 := hle e hl
    rw [(hg c1).2.2] at h2 h3
    exact (hgo c1).2 l' h2 h3
theorem By.new (w : World) : By (w.alloc (.cells #[] 5)) w.heap.size 0 [] := by
  refine ⟨⟨?_, fun g hg => by simp [Value.ownBlock] at hg; exact hg.symm⟩⟩
  have := World.ownsRow_lit w (base := 0) (e := 5) (size := 1) #[] 0 (Nat.zero_le _) (by unfold maxLen; omega) (by simp)
  exact this
end Go.Proofs.YtnadjlejlohgiaaGreatDoor.Wi

/- The specification unpacks a text: part, l5Get, FlateGet, FlateKind. No condition. -/
namespace Go.Proofs.YtnadjlejlohgiaaGreatDoor.Wi
open Go.RowKit Go.Proofs.YtnadjlejlohgiaaGreatDoor.Mem Go.Proofs.YtnadjlejlohgiaaGreatDoor.Bt Go.Proofs.YtnadjlejlohgiaaGreatDoor.Cd Go.Proofs.YtnadjlejlohgiaaGreatDoor.De
set_option linter.unusedVariables false
set_option linter.unusedSimpArgs false
/-- The head of a part has been read. -/
structure Head (s : ByteArray) (p lb t q2 : Nat) (b2 : Bool) : Prop where mk ::
  out : ∃ (q1 : Nat) (b1 : Bool), Ans (num 1) s p false lb q1 b1 ∧ Ans (num 2) s q1 b1 t q2 b2 ∧ (b1 = false → q1 = p + 1) ∧ (b2 = false → q2 = q1 + 2)
theorem Head.far {s : ByteArray} {p lb t q2 : Nat} {b2 : Bool} (h : Head s p lb t q2 b2) (e : b2 = false) : q2 = p + 3 := by
  obtain ⟨q1, b1, A1, A2, e1, e2⟩ := h.out
  have := e2 e
  have := e1 (A2.good e).1
  omega
theorem Head.part {s : ByteArray} {p lb t q2 p' : Nat} {b2 b' : Bool} {l l' : List Nat} (h : Head s p lb t q2 b2) (hp : p ≤ 5600) (hq2 : q2 ≤ 8 * s.size) (hp' : p' ≤ 8 * s.size) (A : AnsO (body t l) s q2 b2 l' p' b') (G : Goes s l p false) :
    (b' = true → whole (rest s 0) = Option.none) ∧ (b' = false → 300 < l'.length → whole (rest s 0) = Option.none) ∧ (b' = false → l'.length ≤ 300 → Goes s l' p' (lb == 1)) := by
  obtain ⟨q1, b1, A1, A2, e1, e2⟩ := h.out
  exact G.step hp A1 A2 A e1 e2 (fun e h => suf_le (De.Loc.body t l) ((A.good e).2.1 h) hq2 hp')
end Go.Proofs.YtnadjlejlohgiaaGreatDoor.Wi

