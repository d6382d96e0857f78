/- Own texts joined: Hg, Zl, Sq, Lr. -/
import Derived.Deep.DeepCutAuto
import Derived.Test.YtnadjlejlohgiaaGreatDoorW4
import Derived.Test.YtnadjlejlohgiaaGreatDoorW33
import Derived.Test.YtnadjlejlohgiaaGreatDoorW34
import Derived.Test.YtnadjlejlohgiaaGreatDoorW35
import Derived.Test.YtnadjlejlohgiaaGreatDoorW36
/- A file as it lies in an archive, the specification's. (Printed by tools/gen_hg.py.) -/
namespace Go.Proofs.YtnadjlejlohgiaaGreatDoor.Lc
open Go.RowKit Go.Proofs.YtnadjlejlohgiaaGreatDoor.Mem Go.Proofs.YtnadjlejlohgiaaGreatDoor.Nm Go.Proofs.YtnadjlejlohgiaaGreatDoor.Nb Go.Proofs.YtnadjlejlohgiaaGreatDoor.Cr Go.Proofs.YtnadjlejlohgiaaGreatDoor.Wi
set_option linter.unusedVariables false
set_option linter.unusedSimpArgs false
theorem sbpk_calls (w : World) : Calls Tryz.prog 56 #[.int .i64 67324752, .int .i64 4] w (fun e w' => e = .returned (.string (nB 4 67324752)) ∧ On w w') := by
  have h := sb4_calls 67324752 (by decide) w
  rw [show ((67324752 : Nat) : Int) = 67324752 from rfl] at h
  exact h
theorem nB_mark : nB 4 67324752 = ⟨#[80, 75, 3, 4]⟩ := by decide
theorem fieldsB_size (nm : ByteArray) (y m d h mi s : Int) (tx : ByteArray) (mt pk : Nat) : (fieldsB nm y m d h mi s tx mt pk).size = 26 := by
  unfold fieldsB
  simp only [ByteArray.size_append, nB_size]
/-- A file in an archive. -/
def localB (nm : ByteArray) (y m d h mi s : Int) (tx : ByteArray) : ByteArray :=
  (((nB 4 67324752 ++ fieldsB nm y m d h mi s tx (howOf tx).1 (howOf tx).2.size) ++ nm) ++ (howOf tx).2)
theorem headB_fields (nm : ByteArray) (y m d h mi s : Int) (tx : ByteArray) (mt pk : Nat) : headB nm y m d h mi s tx mt pk = nB 4 67324752 ++ fieldsB nm y m d h mi s tx mt pk := by
  unfold headB fieldsB
  rw [nB_mark]
  simp only [ByteArray.append_assoc]
set_option maxRecDepth 100000 in
set_option maxHeartbeats 4000000 in
theorem slocal_calls (nm : ByteArray) (y m d h mi s : Int) (tx : ByteArray) (ok : okp y m d h mi s) (hn : nm.size ≤ 1000) (ht : tx.size ≤ 1000) (w : World) :
    Calls Tryz.prog 53 #[.agg #[.string nm, .int .i64 y, .int .i64 m, .int .i64 d, .int .i64 h, .int .i64 mi, .int .i64 s, .string tx]] w (Tells w (.string (localB nm y m d h mi s tx))) := by
  have hpk : (howOf tx).2.size ≤ 1000 := by unfold howOf; split <;> simp <;> omega
  have HR := Lib.hid (show localB nm y m d h mi s tx = (((nB 4 67324752 ++ fieldsB nm y m d h mi s tx (howOf tx).1 (howOf tx).2.size) ++ nm) ++ (howOf tx).2) from rfl)
  generalize localB nm y m d h mi s tx = R at *
  have HF := Lib.hid (fun w => sfields_calls nm y m d h mi s tx ok hn ht w)
  have HW := Lib.hid (fun w => show_calls tx (by omega) w)
  have hfs := fieldsB_size nm y m d h mi s tx (howOf tx).1 (howOf tx).2.size
  generalize fieldsB nm y m d h mi s tx (howOf tx).1 (howOf tx).2.size = fb at *
  generalize howOf tx = hw at *
  obtain ⟨mt, pt⟩ := hw
  have hpk2 : pt.size ≤ 1000 := hpk
  have hs1 := nB_size 4 67324752
  have HM := Lib.hid (fun w => sbpk_calls w)
  generalize nB 4 67324752 = mk at *
  have z1 : ¬ 9223372036854775807 < 30 + nm.size := by omega
  have z2 : ¬ 9223372036854775807 < 30 + nm.size + pt.size := by omega
  have z3 : ¬ 9223372036854775807 < 4 + 26 + nm.size := by omega
  have z4 : ¬ 9223372036854775807 < 4 + 26 + nm.size + pt.size := by omega
  have OA := (On.refl w).alloc (.cells #[.string nm, .int .i64 y, .int .i64 m, .int .i64 d, .int .i64 h, .int .i64 mi, .int .i64 s, .string tx] 42)
  have BA := Blk.new w 42 #[.string nm, .int .i64 y, .int .i64 m, .int .i64 d, .int .i64 h, .int .i64 mi, .int .i64 s, .string tx]
  have HCS := Lib.hid (fun W (b : Blk W w.heap.size 42 #[.string nm, .int .i64 y, .int .i64 m, .int .i64 d, .int .i64 h, .int .i64 mi, .int .i64 s, .string tx]) => (⟨(b.cell 0).trans rfl, (b.cell 1).trans rfl, (b.cell 2).trans rfl, (b.cell 3).trans rfl, (b.cell 4).trans rfl, (b.cell 5).trans rfl, (b.cell 6).trans rfl, (b.cell 7).trans rfl⟩ :
    W.cell? ⟨w.heap.size, 0, none⟩ = some (.string nm) ∧ W.cell? ⟨w.heap.size, 1, none⟩ = some (.int .i64 y) ∧ W.cell? ⟨w.heap.size, 2, none⟩ = some (.int .i64 m) ∧ W.cell? ⟨w.heap.size, 3, none⟩ = some (.int .i64 d) ∧ W.cell? ⟨w.heap.size, 4, none⟩ = some (.int .i64 h) ∧ W.cell? ⟨w.heap.size, 5, none⟩ = some (.int .i64 mi) ∧ W.cell? ⟨w.heap.size, 6, none⟩ = some (.int .i64 s) ∧ W.cell? ⟨w.heap.size, 7, none⟩ = some (.string tx)))
  have HB0 := Lib.hid (fun W (O1 : On (w.alloc (.cells #[.string nm, .int .i64 y, .int .i64 m, .int .i64 d, .int .i64 h, .int .i64 mi, .int .i64 s, .string tx] 42)) W) => HCS.out W (BA.call O1.out))
  clear HCS BA
  go_enter Tryz.func53, Tryz.ntmps53
  go_upto_region 1 with fail
  generalize hP : w.heap.size = p at *
  generalize w.alloc (.cells #[.string nm, .int .i64 y, .int .i64 m, .int .i64 d, .int .i64 h, .int .i64 mi, .int .i64 s, .string tx] 42) = wz at *
  obtain ⟨x0, x1, x2, x3, x4, x5, x6, x7⟩ := HB0.out wz (On.refl _)
  go_wp2_with fail
  refine (HW.out wz).mono ?_
  rintro e wa ⟨rfl, Oz⟩
  clear x0 x1 x2 x3 x4 x5 x6 x7
  replace OA := OA.call Oz
  have HB := Lib.hid (fun W (O1 : On wa W) => HB0.out W (Oz.call O1))
  go_wp2_with fail
  refine wp_region_held_drew (S := fun W => On wa W) (by kernel_rfl) (On.refl _).drew (fun hHeld => ?_)
  refine Tk.tk 1 ?_ rfl (.inl ⟨by rfl, ?_⟩) ?_
  rotate_left
  · intro w hSw; obtain ⟨q0, q1, q2, q3, q4, q5, q6, q7⟩ := HB.out w hSw; go_simp; first | done | with_reducible rfl
  try simp only [Act.put, Tk.s3]
  refine Tk.tk 4 ?_ rfl (.inl ⟨by rfl, ?_⟩) ?_
  rotate_left
  · intro w hSw; go_simp; first | done | with_reducible rfl
  try simp only [Act.put, Tk.s3]
  refine Tk.tk 5 ?_ rfl (.inl ⟨by rfl, ?_⟩) ?_
  rotate_left
  · intro w hSw; obtain ⟨q0, q1, q2, q3, q4, q5, q6, q7⟩ := HB.out w hSw; go_simp; first | done | with_reducible rfl
  try simp only [Act.put, Tk.s3]
  refine Tk.tk 7 ?_ rfl (.inl ⟨by rfl, ?_⟩) ?_
  rotate_left
  · intro w hSw; go_simp; first | done | with_reducible rfl
  try simp only [Act.put, Tk.s3]
  have O0 := (On.refl wa).drew
  refine Tk.rd 0 rfl fun K hK => ?_
  go_simp
  refine (HM.out wa.drew).mono ?_
  rintro e w1 ⟨rfl, T1⟩
  have O1 := O0.call T1
  refine hK.out _ _ O1 (fun hHeld => ?_)
  clear hK K
  try simp only [Act.put, Tk.s3]
  refine Tk.rd 2 rfl fun K hK => ?_
  go_simp
  refine (HF.out w1).mono ?_
  rintro e w2 ⟨rfl, T2⟩
  have O2 := O1.call T2
  refine hK.out _ _ O2 (fun hHeld => ?_)
  clear hK K
  try simp only [Act.put, Tk.s3]
  refine Tk.tk 3 ?_ rfl (.inl ⟨by rfl, ?_⟩) ?_
  rotate_left
  · intro w hSw; go_simp; first | done | with_reducible rfl
  try simp only [Act.put, Tk.s3]
  refine Tk.tk 6 ?_ rfl (.inl ⟨by rfl, ?_⟩) ?_
  rotate_left
  · intro w hSw; go_simp; first | done | with_reducible rfl
  try simp only [Act.put, Tk.s3]
  refine Tk.tk 8 ?_ rfl (.inl ⟨by rfl, ?_⟩) ?_
  rotate_left
  · intro w hSw; go_simp; first | done | with_reducible rfl
  try simp only [Act.put, Tk.s3]
  refine Tk.rd 9 rfl fun K hK => ?_
  go_simp
  refine hK.out _ _ O2 (fun hHeld => ?_)
  clear hK K
  try simp only [Act.put, Tk.s3]
  refine wpAnyH_done (by kernel_rfl) ?_ _
  go_wp2_with fail
  go_ret
  exact ⟨by rw [HR.out]; rfl, OA.call O2⟩
end Go.Proofs.YtnadjlejlohgiaaGreatDoor.Lc

/- A file of an archive read back, in plain words: the number of its stamp, its fields as bytes. Nothing is walked here. -/
namespace Go.Proofs.YtnadjlejlohgiaaGreatDoor.Lc
open Go.RowKit Go.Proofs.YtnadjlejlohgiaaGreatDoor.Mem Go.Proofs.YtnadjlejlohgiaaGreatDoor.Nm Go.Proofs.YtnadjlejlohgiaaGreatDoor.Nb Go.Proofs.YtnadjlejlohgiaaGreatDoor.Cr Go.Proofs.YtnadjlejlohgiaaGreatDoor.Wi Go.Proofs.YtnadjlejlohgiaaGreatDoor.De
set_option linter.unusedVariables false
set_option linter.unusedSimpArgs false
theorem parts_total : ∀ l : List UInt8, ((Nm.parts l).map fun p => p.length + 1).sum = l.length + 1
  | [] => rfl
  | b :: t => by
    have ih := parts_total t
    by_cases hb : b = 47
    · simp only [Nm.parts, if_pos hb, List.map_cons, List.sum_cons, ih, List.length_nil, List.length_cons]; omega
    · simp only [Nm.parts, if_neg hb]
      cases h : Nm.parts t with
      | nil => exact absurd h (Nm.parts_ne t)
      | cons p r =>
        rw [h] at ih
        simp only [List.map_cons, List.sum_cons, List.length_cons] at ih ⊢
        omega
theorem sum_le : ∀ (l : List (List UInt8)), (∀ p ∈ l, p.length ≤ 10) → (l.map fun p => p.length + 1).sum ≤ 11 * l.length
  | [], _ => by simp
  | p :: r, h => by
    have ih := sum_le r fun q hq => h q (List.mem_cons_of_mem _ hq)
    have h1 := h p List.mem_cons_self
    simp only [List.map_cons, List.sum_cons, List.length_cons]
    omega
theorem nameOk_size {nm : ByteArray} (h : nameOk nm.data.toList = true) : nm.size ≤ 43 := by
  unfold nameOk at h
  rw [Bool.and_eq_true, decide_eq_true_eq, List.all_eq_true] at h
  have h1 := parts_total nm.data.toList
  have h2 := sum_le (Nm.parts nm.data.toList) fun p hp => by
    have := h.1 p hp
    unfold partOk at this
    simp only [Bool.and_eq_true, decide_eq_true_eq] at this
    omega
  have e : nm.size = nm.data.toList.length := by rw [Array.length_toList]; rfl
  omega
theorem entryOk_parts {nm tx : ByteArray} {y m d h mi s : Int} (hk : entryOk nm y m d h mi s tx = true) : nm.size ≤ 43 ∧ okp y m d h mi s ∧ tx.size ≤ 300 := by
  unfold entryOk at hk
  simp only [Bool.and_eq_true, decide_eq_true_eq] at hk
  exact ⟨nameOk_size hk.1, hk.2.1, hk.2.2⟩
theorem ch_append (a b : ByteArray) : chars (a ++ b) = chars a ++ chars b := by
  unfold chars
  rw [ByteArray.data_append, Array.toList_append, List.map_append]
theorem ch_extract (s : ByteArray) (a b : Nat) : chars (s.extract a b) = ((chars s).drop a).take (b - a) := by
  unfold chars
  rw [Lib.extract_data, List.map_take, List.map_drop]
theorem numB_cons : ∀ (n v : Nat), numB (n + 1) v = v % 256 :: numB n (v / 256) := by
  intro n v
  unfold numB
  rw [List.range_succ_eq_map, List.map_cons, List.map_map, Nat.pow_zero, Nat.div_one]
  congr 1
  refine List.map_congr_left fun i _ => ?_
  show v / 256 ^ (i + 1) % 256 = v / 256 / 256 ^ i % 256
  rw [Nat.div_div_eq_div_mul, Nat.pow_succ, Nat.mul_comm]
theorem numB_numOf : ∀ {l : List Nat}, (∀ x ∈ l, x < 256) → numB l.length (numOf l) = l
  | [], _ => rfl
  | x :: l, h => by
    have h1 := numB_numOf (l := l) fun y hy => h y (List.mem_cons_of_mem _ hy)
    have h2 := h x List.mem_cons_self
    rw [List.length_cons, numB_cons, numOf]
    rw [show (x + 256 * numOf l) % 256 = x from by omega, show (x + 256 * numOf l) / 256 = numOf l from by omega, h1]
theorem numOf_numB : ∀ (n v : Nat), v < 256 ^ n → numOf (numB n v) = v
  | 0, v, h => by simp at h; subst h; rfl
  | n + 1, v, h => by
    rw [Nat.pow_succ] at h
    rw [numB_cons, numOf, numOf_numB n (v / 256) (by omega)]
    omega
/-- The number that a list of bytes has from a place on. -/
def numL (l : List Nat) (a n : Nat) : Nat := numOf ((l.drop a).take n)
theorem numAtB_eq (s : ByteArray) (a n : Nat) : numAtB s a n = numL (chars s) a n := rfl
theorem numL_lt {l : List Nat} (hl : ∀ x ∈ l, x < 256) (a n : Nat) : numL l a n < 256 ^ n :=
  Nat.lt_of_lt_of_le (numOf_lt fun x hx => hl x (List.mem_of_mem_drop (List.mem_of_mem_take hx))) (Nat.pow_le_pow_right (by decide) (List.length_take_le _ _))
theorem numAtB_lt (s : ByteArray) (a n : Nat) : numAtB s a n < 256 ^ n := numL_lt (chars_lt s) a n
theorem piece_iff {l : List Nat} (hl : ∀ x ∈ l, x < 256) {a n v : Nat} (h : a + n ≤ l.length) (hv : v < 256 ^ n) : (l.drop a).take n = numB n v ↔ numL l a n = v := by
  constructor
  · intro e
    unfold numL
    rw [e, numOf_numB n v hv]
  · intro e
    rw [← e]
    have h1 := numB_numOf (l := (l.drop a).take n) fun x hx => hl x (List.mem_of_mem_drop (List.mem_of_mem_take hx))
    rw [show ((l.drop a).take n).length = n from by rw [List.length_take, List.length_drop]; omega] at h1
    exact h1.symm
theorem chars_nB (n v : Nat) : chars (nB n v) = numB n v := chars_strB (numB_lt n v)
theorem chars_mark : chars (⟨#[80, 75, 3, 4]⟩ : ByteArray) = numB 4 67324752 := by rw [← nB_mark, chars_nB]
/-- A list cut into pieces. -/
theorem cut_iff {l r : List Nat} {n v : Nat} (hl : n ≤ l.length) : l = numB n v ++ r ↔ l.take n = numB n v ∧ l.drop n = r := by
  constructor
  · intro e
    subst e
    exact ⟨by rw [List.take_left' (numB_length n v)], by rw [List.drop_left' (numB_length n v)]⟩
  · rintro ⟨e1, e2⟩
    rw [← e1, ← e2, List.take_append_drop]
theorem headB_iff {nm tx t : ByteArray} {y m d h mi s : Int} {mt pk : Nat} (ht : t.size = 30) (hmt : mt < 65536) (hst : (stampN y m d h mi s).toNat < 4294967296) (hpk : pk < 4294967296) (htx : tx.size < 4294967296) (hnm : nm.size < 65536) :
    t = headB nm y m d h mi s tx mt pk ↔
      numAtB t 0 4 = 67324752 ∧ numAtB t 4 2 = 20 ∧ numAtB t 6 2 = 0 ∧ numAtB t 8 2 = mt ∧ numAtB t 10 4 = (stampN y m d h mi s).toNat ∧ numAtB t 14 4 = crcOf tx ∧ numAtB t 18 4 = pk ∧ numAtB t 22 4 = tx.size ∧ numAtB t 26 2 = nm.size ∧ numAtB t 28 2 = 0 := by
  have hcr : crcOf tx < 4294967296 := crcC_lt tx
  have hl := chars_lt t
  have hn : (chars t).length = 30 := by rw [chars_length, ht]
  simp only [numAtB_eq]
  unfold headB
  generalize (stampN y m d h mi s).toNat = sn at *
  generalize crcOf tx = cr at *
  generalize tx.size = tn at *
  generalize nm.size = nn at *
  have e : chars (((((((((((⟨#[80, 75, 3, 4]⟩ : ByteArray) ++ nB 2 20) ++ nB 2 0) ++ nB 2 mt) ++ nB 4 sn) ++ nB 4 cr) ++ nB 4 pk) ++ nB 4 tn) ++ nB 2 nn) ++ nB 2 0)) =
      numB 4 67324752 ++ (numB 2 20 ++ (numB 2 0 ++ (numB 2 mt ++ (numB 4 sn ++ (numB 4 cr ++ (numB 4 pk ++ (numB 4 tn ++ (numB 2 nn ++ numB 2 0)))))))) := by
    simp only [ch_append, chars_nB, chars_mark, List.append_assoc]
  have q : t = (((((((((⟨#[80, 75, 3, 4]⟩ ++ nB 2 20) ++ nB 2 0) ++ nB 2 mt) ++ nB 4 sn) ++ nB 4 cr) ++ nB 4 pk) ++ nB 4 tn) ++ nB 2 nn) ++ nB 2 0) ↔ chars t = numB 4 67324752 ++ (numB 2 20 ++ (numB 2 0 ++ (numB 2 mt ++ (numB 4 sn ++ (numB 4 cr ++ (numB 4 pk ++ (numB 4 tn ++ (numB 2 nn ++ numB 2 0)))))))) := by
    rw [← e]
    exact ⟨fun h => congrArg chars h, chars_ext⟩
  refine Iff.trans q ?_
  generalize chars t = l at *
  clear q e ht
  have P := fun (a n v : Nat) (h1 : a + n ≤ 30) (h2 : v < 256 ^ n) => piece_iff hl (a := a) (n := n) (v := v) (by omega) h2
  rw [cut_iff (by omega), cut_iff (by simp only [List.length_drop]; omega), cut_iff (by simp only [List.length_drop]; omega), cut_iff (by simp only [List.length_drop]; omega), cut_iff (by simp only [List.length_drop]; omega), cut_iff (by simp only [List.length_drop]; omega), cut_iff (by simp only [List.length_drop]; omega), cut_iff (by simp only [List.length_drop]; omega), cut_iff (by simp only [List.length_drop]; omega)]
  simp only [List.drop_drop, Nat.reduceAdd]
  have Z : l.drop 28 = numB 2 0 ↔ (l.drop 28).take 2 = numB 2 0 := by rw [List.take_of_length_le (by rw [List.length_drop]; omega)]
  have P0 := P 0 4 67324752 (by omega) (by decide)
  rw [List.drop_zero] at P0
  rw [Z, P0, P 4 2 20 (by omega) (by decide), P 6 2 0 (by omega) (by decide), P 8 2 mt (by omega) (by omega), P 10 4 sn (by omega) (by omega), P 14 4 cr (by omega) (by omega), P 18 4 pk (by omega) (by omega), P 22 4 tn (by omega) (by omega), P 26 2 nn (by omega) (by omega), P 28 2 0 (by omega) (by decide)]
/-- A stamp's numbers out of its number. -/
def gy (n : Nat) : Int := n / 33554432 + 1980
def gm (n : Nat) : Int := n / 2097152 % 16
def gd (n : Nat) : Int := n / 65536 % 32
def gh (n : Nat) : Int := n / 2048 % 32
def gi (n : Nat) : Int := n / 32 % 64
def gs (n : Nat) : Int := n % 32 * 2
theorem stampN_get (n : Nat) : stampN (gy n) (gm n) (gd n) (gh n) (gi n) (gs n) = n := by
  unfold stampN gy gm gd gh gi gs
  omega
/-- What is told of a file in an archive before its text is unpacked. -/
def headOk (s : ByteArray) : Prop := 30 ≤ s.size ∧ numAtB s 0 4 = 67324752 ∧ numAtB s 4 2 = 20 ∧ numAtB s 6 2 = 0 ∧ numAtB s 28 2 = 0 ∧ 30 + numAtB s 26 2 + numAtB s 18 4 ≤ s.size
instance (s : ByteArray) : Decidable (headOk s) := by unfold headOk; infer_instance
def rdName (s : ByteArray) : ByteArray := s.extract 30 (30 + numAtB s 26 2)
def rdPk (s : ByteArray) : ByteArray := s.extract (30 + numAtB s 26 2) (30 + numAtB s 26 2 + numAtB s 18 4)
def rdNum (s : ByteArray) : Nat := numAtB s 10 4
def rdLong (s : ByteArray) : Nat := 30 + numAtB s 26 2 + numAtB s 18 4
/-- The file is as its text says. -/
def textOk (s : ByteArray) (o : ByteArray) : Prop := numAtB s 14 4 = crcOf o ∧ numAtB s 22 4 = o.size ∧ entryOk (rdName s) (gy (rdNum s)) (gm (rdNum s)) (gd (rdNum s)) (gh (rdNum s)) (gi (rdNum s)) (gs (rdNum s)) o = true
instance (s o : ByteArray) : Decidable (textOk s o) := by unfold textOk; infer_instance
/-- The text of a file that is read, if it is one. -/
def locText (s : ByteArray) : Option ByteArray :=
  if headOk s then (match textOf (numAtB s 8 2) (chars (rdPk s)) with | some o => if textOk s (strB o) then some (strB o) else none | none => none) else none
def fiOf (t o : ByteArray) : Fi := ⟨rdName t, gy (rdNum t), gm (rdNum t), gd (rdNum t), gh (rdNum t), gi (rdNum t), gs (rdNum t), o⟩
def zeroFi : Fi := ⟨⟨#[]⟩, 0, 0, 0, 0, 0, 0, ⟨#[]⟩⟩
/-- What LocalGet answers: a file, how many bytes it takes, whether there is one. -/
def lget (s : ByteArray) : Fi × Nat × Bool := match locText s with | some o => (fiOf s o, rdLong s, true) | none => (zeroFi, 0, false)
def fiV (f : Fi) : Value := .agg #[.string f.nm, .int .i64 f.y, .int .i64 f.m, .int .i64 f.d, .int .i64 f.h, .int .i64 f.mi, .int .i64 f.s, .string f.tx]
def lgetV (s : ByteArray) : Value := .tuple #[fiV (lget s).1, .int .i64 ((lget s).2.1 : Nat), .bool (lget s).2.2]
theorem lget_none {s : ByteArray} (h : locText s = none) : lget s = (zeroFi, 0, false) := by unfold lget; rw [h]
theorem lget_some {s o : ByteArray} (h : locText s = some o) : lget s = (fiOf s o, rdLong s, true) := by unfold lget; rw [h]
theorem rdName_size {s : ByteArray} (h : 30 + numAtB s 26 2 ≤ s.size) : (rdName s).size = numAtB s 26 2 := by
  unfold rdName; rw [ByteArray.size_extract]; omega
theorem rdPk_size {s : ByteArray} (h : 30 + numAtB s 26 2 + numAtB s 18 4 ≤ s.size) : (rdPk s).size = numAtB s 18 4 := by
  unfold rdPk; rw [ByteArray.size_extract]; omega
/-- A number in a text's head. -/
theorem numAtB_head (s : ByteArray) {a n : Nat} (h : a + n ≤ 30) : numAtB (s.extract 0 30) a n = numAtB s a n := by
  rw [numAtB_eq, numAtB_eq, ch_extract, numL, numL, List.drop_zero]
  congr 1
  rw [List.drop_take, List.take_take]
  congr 1
  omega
/-- The program's own look at a head: it is that of the file that was read. -/
theorem head_is {s o : ByteArray} (h30 : 30 ≤ s.size) (hfit : 30 + numAtB s 26 2 + numAtB s 18 4 ≤ s.size) (ho : o.size < 4294967296) :
    headB (rdName s) (gy (rdNum s)) (gm (rdNum s)) (gd (rdNum s)) (gh (rdNum s)) (gi (rdNum s)) (gs (rdNum s)) o (numAtB s 8 2) (numAtB s 18 4) = s.extract 0 30 ↔
      numAtB s 0 4 = 67324752 ∧ numAtB s 4 2 = 20 ∧ numAtB s 6 2 = 0 ∧ numAtB s 28 2 = 0 ∧ numAtB s 14 4 = crcOf o ∧ numAtB s 22 4 = o.size := by
  have hz : (s.extract 0 30).size = 30 := by rw [ByteArray.size_extract]; omega
  have b1 := numAtB_lt s 26 2
  have b2 := numAtB_lt s 18 4
  have b3 := numAtB_lt s 8 2
  have b4 := numAtB_lt s 10 4
  have hnm := rdName_size (s := s) (by omega)
  have hsn : (stampN (gy (rdNum s)) (gm (rdNum s)) (gd (rdNum s)) (gh (rdNum s)) (gi (rdNum s)) (gs (rdNum s))).toNat = numAtB s 10 4 := by rw [stampN_get]; rfl
  rw [eq_comm, headB_iff hz (by omega) (by rw [hsn]; omega) (by omega) ho (by omega), hsn, hnm]
  simp only [numAtB_head s (a := 0) (n := 4) (by omega), numAtB_head s (a := 4) (n := 2) (by omega), numAtB_head s (a := 6) (n := 2) (by omega), numAtB_head s (a := 8) (n := 2) (by omega), numAtB_head s (a := 10) (n := 4) (by omega), numAtB_head s (a := 14) (n := 4) (by omega), numAtB_head s (a := 18) (n := 4) (by omega), numAtB_head s (a := 22) (n := 4) (by omega), numAtB_head s (a := 26) (n := 2) (by omega), numAtB_head s (a := 28) (n := 2) (by omega)]
  constructor
  · rintro ⟨a0, a1, a2, _, _, a3, _, a4, _, a5⟩; exact ⟨a0, a1, a2, a5, a3, a4⟩
  · rintro ⟨a0, a1, a2, a5, a3, a4⟩; exact ⟨a0, a1, a2, trivial, trivial, a3, trivial, a4, trivial, a5⟩
end Go.Proofs.YtnadjlejlohgiaaGreatDoor.Lc

/- A stamp out of its number, the program's. -/
namespace Go.Proofs.YtnadjlejlohgiaaGreatDoor.Lc
open Go.RowKit Go.Proofs.YtnadjlejlohgiaaGreatDoor.Mem Go.Proofs.YtnadjlejlohgiaaGreatDoor.Nm Go.Proofs.YtnadjlejlohgiaaGreatDoor.Nb Go.Proofs.YtnadjlejlohgiaaGreatDoor.Cr Go.Proofs.YtnadjlejlohgiaaGreatDoor.Wi
set_option linter.unusedVariables false
set_option linter.unusedSimpArgs false
theorem and_mask (i : Nat) (hi : i ≤ 63) {x m : Int} (hm : m = 2 ^ i - 1) (h0 : 0 ≤ x) (h1 : x < 9223372036854775808) : Go.bits .and .i64 x m = x % 2 ^ i := by
  subst hm
  exact bits_mask .i64 63 (by decide) swr_i64 i hi x h0 (by omega)
theorem masks (n : Nat) (h1 : n < 4294967296) : Go.bits .and .i64 ((n : Int) / 33554432) 127 = (n : Int) / 33554432 ∧ Go.bits .and .i64 ((n : Int) / 2097152) 15 = gm n ∧ Go.bits .and .i64 ((n : Int) / 65536) 31 = gd n ∧ Go.bits .and .i64 ((n : Int) / 2048) 31 = gh n ∧ Go.bits .and .i64 ((n : Int) / 32) 63 = gi n ∧ Go.bits .and .i64 (n : Int) 31 = (n : Int) % 32 := by
  unfold gm gd gh gi
  rw [and_mask 7 (by decide) (by decide) (by omega) (by omega), and_mask 4 (by decide) (by decide) (by omega) (by omega), and_mask (x := (n : Int) / 65536) 5 (by decide) (by decide) (by omega) (by omega), and_mask (x := (n : Int) / 2048) 5 (by decide) (by decide) (by omega) (by omega), and_mask 6 (by decide) (by decide) (by omega) (by omega), and_mask (x := (n : Int)) 5 (by decide) (by decide) (by omega) (by omega)]
  simp only [show ((2:Int) ^ 7) = 128 from rfl, show ((2:Int) ^ 4) = 16 from rfl, show ((2:Int) ^ 5) = 32 from rfl, show ((2:Int) ^ 6) = 64 from rfl]
  refine ⟨?_, trivial, trivial, trivial, trivial, trivial⟩
  omega
set_option maxRecDepth 100000 in
set_option maxHeartbeats 1000000 in
theorem iputno_calls (y m d h mi s : Int) (ok : ¬ okp y m d h mi s) (w : World) :
    Calls Tryz.prog 79 #[.agg #[.int .i64 y, .int .i64 m, .int .i64 d, .int .i64 h, .int .i64 mi, .int .i64 s]] w (Tells w (.int .i64 (-1))) := by
  have HK := Lib.hid (fun w => iok_calls y m d h mi s w)
  rw [decide_eq_false ok] at HK
  clear ok
  have OA := (On.refl w).alloc (.cells #[.int .i64 y, .int .i64 m, .int .i64 d, .int .i64 h, .int .i64 mi, .int .i64 s] 40)
  go_enter Tryz.func79, Tryz.ntmps79
  go_wp2_with fail
  generalize w.alloc (.cells #[.int .i64 y, .int .i64 m, .int .i64 d, .int .i64 h, .int .i64 mi, .int .i64 s] 40) = wa at *
  refine (HK.out wa).mono ?_
  rintro e w1 ⟨rfl, O1⟩
  go_wp2_with fail
  go_ret
  exact ⟨rfl, OA.call O1⟩
abbrev zero6 : Array Value := #[.int .i64 0, .int .i64 0, .int .i64 0, .int .i64 0, .int .i64 0, .int .i64 0]
theorem set6 {w : World} {g t : Nat} {x0 x1 x2 x3 x4 x5 : Value} (B : Blk w g t #[x0, x1, x2, x3, x4, x5]) (a b c d e f : Value) :
    Blk ((((((w.setCell ⟨g, 0, none⟩ a).setCell ⟨g, 1, none⟩ b).setCell ⟨g, 2, none⟩ c).setCell ⟨g, 3, none⟩ d).setCell ⟨g, 4, none⟩ e).setCell ⟨g, 5, none⟩ f) g t #[a, b, c, d, e, f] := by
  have h := (((((B.set 0 a).set 1 b).set 2 c).set 3 d).set 4 e).set 5 f
  simpa using h
set_option maxRecDepth 100000 in
set_option maxHeartbeats 800000 in
theorem iget_no (n : Nat) (h1 : n < 4294967296) (ok : ¬ okp (gy n) (gm n) (gd n) (gh n) (gi n) (gs n)) (w : World) : Calls Tryz.prog 61 #[.int .i64 n] w (Tells w (.tuple #[.agg zero6, .bool false])) := by
  obtain ⟨m1, m2, m3, m4, m5, m6⟩ := masks n h1
  have m7 : IntKind.i64.wrap ((n : Int) % 32 * 2) = gs n := by unfold gs; rw [IntKind.wrap_i64]; omega
  have m8 : IntKind.i64.wrap (1980 + (n : Int) / 33554432) = gy n := by unfold gy; rw [IntKind.wrap_i64]; omega
  have HH := Lib.hid (fun w => iputno_calls (gy n) (gm n) (gd n) (gh n) (gi n) (gs n) ok w)
  clear ok
  generalize gy n = y at *
  generalize gm n = mo at *
  generalize gd n = d at *
  generalize gh n = h at *
  generalize gi n = mi at *
  generalize gs n = s at *
  go_enter Tryz.func61, Tryz.ntmps61
  have B := Blk.new w 40 zero6
  go_wp2_with fail
  replace B := B.alloc (.cells #[.int .i64 y, .int .i64 mo, .int .i64 d, .int .i64 h, .int .i64 mi, .int .i64 s] 40)
  have O := ((On.refl w).alloc (.cells zero6 40)).alloc (.cells #[.int .i64 y, .int .i64 mo, .int .i64 d, .int .i64 h, .int .i64 mi, .int .i64 s] 40)
  refine (HH.out _).mono ?_
  rintro e w3 ⟨rfl, O3⟩
  replace B := B.call O3.out
  replace O := O.call O3
  have hr' : ((-1 : Int) != (n : Int)) = true := by simp
  have c0 : w3.cell? ⟨w.heap.size, 0, none⟩ = some (.int .i64 0) := (B.cell 0).trans rfl
  have c1 : w3.cell? ⟨w.heap.size, 1, none⟩ = some (.int .i64 0) := (B.cell 1).trans rfl
  have c2 : w3.cell? ⟨w.heap.size, 2, none⟩ = some (.int .i64 0) := (B.cell 2).trans rfl
  have c3 : w3.cell? ⟨w.heap.size, 3, none⟩ = some (.int .i64 0) := (B.cell 3).trans rfl
  have c4 : w3.cell? ⟨w.heap.size, 4, none⟩ = some (.int .i64 0) := (B.cell 4).trans rfl
  have c5 : w3.cell? ⟨w.heap.size, 5, none⟩ = some (.int .i64 0) := (B.cell 5).trans rfl
  have fr : ∀ i, w3.frozen? ⟨w.heap.size, i, none⟩ = false := B.frozen
  go_wp2_with fail
  have B' := set6 B (.int .i64 0) (.int .i64 0) (.int .i64 0) (.int .i64 0) (.int .i64 0) (.int .i64 0)
  refine bodyPost_ret (v := .tuple #[.agg zero6, .bool false]) (by exact res_ct (fn := Tryz.f61) (p := 2) (u := 3) rfl B' rfl Tryz.underlying40 rfl (by kernel_rfl)) rfl ⟨rfl, ?_⟩
  repeat (first | with_reducible exact O | refine On.set ?_ (Nat.le_refl _) _)
set_option maxRecDepth 100000 in
set_option maxHeartbeats 800000 in
theorem iget_yes (n : Nat) (h1 : n < 4294967296) (ok : okp (gy n) (gm n) (gd n) (gh n) (gi n) (gs n)) (w : World) : Calls Tryz.prog 61 #[.int .i64 n] w (Tells w (.tuple #[.agg #[.int .i64 (gy n), .int .i64 (gm n), .int .i64 (gd n), .int .i64 (gh n), .int .i64 (gi n), .int .i64 (gs n)], .bool true])) := by
  obtain ⟨m1, m2, m3, m4, m5, m6⟩ := masks n h1
  have m7 : IntKind.i64.wrap ((n : Int) % 32 * 2) = gs n := by unfold gs; rw [IntKind.wrap_i64]; omega
  have m8 : IntKind.i64.wrap (1980 + (n : Int) / 33554432) = gy n := by unfold gy; rw [IntKind.wrap_i64]; omega
  have HH := Lib.hid (fun w => iput_calls (gy n) (gm n) (gd n) (gh n) (gi n) (gs n) ok w)
  rw [stampN_get] at HH
  clear ok
  generalize gy n = y at *
  generalize gm n = mo at *
  generalize gd n = d at *
  generalize gh n = h at *
  generalize gi n = mi at *
  generalize gs n = s at *
  go_enter Tryz.func61, Tryz.ntmps61
  have B := Blk.new w 40 zero6
  go_wp2_with fail
  replace B := B.alloc (.cells #[.int .i64 y, .int .i64 mo, .int .i64 d, .int .i64 h, .int .i64 mi, .int .i64 s] 40)
  have D := Blk.new (w.alloc (.cells zero6 40)) 40 #[.int .i64 y, .int .i64 mo, .int .i64 d, .int .i64 h, .int .i64 mi, .int .i64 s]
  have O := ((On.refl w).alloc (.cells zero6 40)).alloc (.cells #[.int .i64 y, .int .i64 mo, .int .i64 d, .int .i64 h, .int .i64 mi, .int .i64 s] 40)
  rw [show (w.alloc (.cells zero6 40)).heap.size = w.heap.size + 1 from by simp] at D
  refine (HH.out _).mono ?_
  rintro e w3 ⟨rfl, O3⟩
  replace B := B.call O3.out
  replace D := D.call O3.out
  replace O := O.call O3
  have c0 : w3.cell? ⟨w.heap.size, 0, none⟩ = some (.int .i64 0) := (B.cell 0).trans rfl
  have c1 : w3.cell? ⟨w.heap.size, 1, none⟩ = some (.int .i64 0) := (B.cell 1).trans rfl
  have c2 : w3.cell? ⟨w.heap.size, 2, none⟩ = some (.int .i64 0) := (B.cell 2).trans rfl
  have c3 : w3.cell? ⟨w.heap.size, 3, none⟩ = some (.int .i64 0) := (B.cell 3).trans rfl
  have c4 : w3.cell? ⟨w.heap.size, 4, none⟩ = some (.int .i64 0) := (B.cell 4).trans rfl
  have c5 : w3.cell? ⟨w.heap.size, 5, none⟩ = some (.int .i64 0) := (B.cell 5).trans rfl
  have fr : ∀ i, w3.frozen? ⟨w.heap.size, i, none⟩ = false := B.frozen
  have d0 : w3.cell? ⟨w.heap.size + 1, 0, none⟩ = some (.int .i64 y) := (D.cell 0).trans rfl
  have d1 : w3.cell? ⟨w.heap.size + 1, 1, none⟩ = some (.int .i64 mo) := (D.cell 1).trans rfl
  have d2 : w3.cell? ⟨w.heap.size + 1, 2, none⟩ = some (.int .i64 d) := (D.cell 2).trans rfl
  have d3 : w3.cell? ⟨w.heap.size + 1, 3, none⟩ = some (.int .i64 h) := (D.cell 3).trans rfl
  have d4 : w3.cell? ⟨w.heap.size + 1, 4, none⟩ = some (.int .i64 mi) := (D.cell 4).trans rfl
  have d5 : w3.cell? ⟨w.heap.size + 1, 5, none⟩ = some (.int .i64 s) := (D.cell 5).trans rfl
  go_wp2_with fail
  have B' := set6 B (.int .i64 y) (.int .i64 mo) (.int .i64 d) (.int .i64 h) (.int .i64 mi) (.int .i64 s)
  refine bodyPost_ret (v := .tuple #[.agg #[.int .i64 y, .int .i64 mo, .int .i64 d, .int .i64 h, .int .i64 mi, .int .i64 s], .bool true]) (by exact res_ct (fn := Tryz.f61) (p := 2) (u := 3) rfl B' rfl Tryz.underlying40 rfl (by kernel_rfl)) rfl ⟨rfl, ?_⟩
  repeat (first | with_reducible exact O | refine On.set ?_ (Nat.le_refl _) _)
end Go.Proofs.YtnadjlejlohgiaaGreatDoor.Lc

/- A file of an archive read back: the specification's. (Printed by tools/gen_lr.py.) -/
namespace Go.Proofs.YtnadjlejlohgiaaGreatDoor.Lc
open Go.RowKit Go.Proofs.YtnadjlejlohgiaaGreatDoor.Mem Go.Proofs.YtnadjlejlohgiaaGreatDoor.Nm Go.Proofs.YtnadjlejlohgiaaGreatDoor.Nb Go.Proofs.YtnadjlejlohgiaaGreatDoor.Cr Go.Proofs.YtnadjlejlohgiaaGreatDoor.Wi
set_option linter.unusedVariables false
set_option linter.unusedSimpArgs false
section
variable {P : Program} {fn : Func} {tmps : Array Value} {w : World} {g t : Nat} {cs : Array Value} {d : TypeDesc}
theorem res_ctt {p u v : Tmp} {ty : TypeId} (h : fn.results = #[.cell p ty, .tmp u, .tmp v]) (b : Blk w g t cs) (hp : tmps.getD p undef = .pointer (some ⟨g, 0, none⟩))
    (hu : P.underlying ty = some d) (hd : (match d with | .struct _ | .array _ _ => true | _ => false) = true) (hi : (P.info? ty).map (·.size) = some cs.size) :
    (results fn tmps).run P w = .ok (.tuple #[.agg cs, tmps.getD u undef, tmps.getD v undef]) w := by
  have e : tmps[p]?.getD undef = .pointer (some ⟨g, 0, none⟩) := by simpa using hp
  simp [results, h, e, asAddr, run_loadVar_row w g t ty cs (0, 0) d b.out hu hd hi]
end
abbrev zero8 : Array Value := #[.string ⟨#[]⟩, .int .i64 0, .int .i64 0, .int .i64 0, .int .i64 0, .int .i64 0, .int .i64 0, .string ⟨#[]⟩]
theorem set8 {w : World} {g t : Nat} {x0 x1 x2 x3 x4 x5 x6 x7 : Value} (B : Blk w g t #[x0, x1, x2, x3, x4, x5, x6, x7]) (a b c d e f h i : Value) :
    Blk ((((((((w.setCell ⟨g, 0, none⟩ a).setCell ⟨g, 1, none⟩ b).setCell ⟨g, 2, none⟩ c).setCell ⟨g, 3, none⟩ d).setCell ⟨g, 4, none⟩ e).setCell ⟨g, 5, none⟩ f).setCell ⟨g, 6, none⟩ h).setCell ⟨g, 7, none⟩ i) g t #[a, b, c, d, e, f, h, i] := by
  have q := (((((((B.set 0 a).set 1 b).set 2 c).set 3 d).set 4 e).set 5 f).set 6 h).set 7 i
  simpa using q
theorem cells8 {w : World} {g t : Nat} {x0 x1 x2 x3 x4 x5 x6 x7 : Value} (b : Blk w g t #[x0, x1, x2, x3, x4, x5, x6, x7]) :
    w.cell? ⟨g, 0, none⟩ = some x0 ∧ w.cell? ⟨g, 1, none⟩ = some x1 ∧ w.cell? ⟨g, 2, none⟩ = some x2 ∧ w.cell? ⟨g, 3, none⟩ = some x3 ∧ w.cell? ⟨g, 4, none⟩ = some x4 ∧ w.cell? ⟨g, 5, none⟩ = some x5 ∧ w.cell? ⟨g, 6, none⟩ = some x6 ∧ w.cell? ⟨g, 7, none⟩ = some x7 :=
  ⟨(b.cell 0).trans rfl, (b.cell 1).trans rfl, (b.cell 2).trans rfl, (b.cell 3).trans rfl, (b.cell 4).trans rfl, (b.cell 5).trans rfl, (b.cell 6).trans rfl, (b.cell 7).trans rfl⟩
theorem sget6 (n : Nat) : (n : Int) / 32 / 64 / 32 / 32 / 16 + 1980 = gy n ∧ (n : Int) / 32 / 64 / 32 / 32 % 16 = gm n ∧ (n : Int) / 32 / 64 / 32 % 32 = gd n ∧ (n : Int) / 32 / 64 % 32 = gh n ∧ (n : Int) / 32 % 64 = gi n ∧ 2 * ((n : Int) % 32) = gs n := by
  unfold gy gm gd gh gi gs; omega
set_option maxRecDepth 100000 in
set_option maxHeartbeats 1000000 in
theorem sget_calls (n : Nat) (h1 : n < 4294967296) (w : World) :
    Calls Tryz.prog 57 #[.int .i64 n] w (Tells w (.agg #[.int .i64 (gy n), .int .i64 (gm n), .int .i64 (gd n), .int .i64 (gh n), .int .i64 (gi n), .int .i64 (gs n)])) := by
  obtain ⟨f1, f2, f3, f4, f5, f6⟩ := sget6 n
  rw [← f1, ← f2, ← f3, ← f4, ← f5, ← f6]
  clear f1 f2 f3 f4 f5 f6
  have h0 : (0 : Int) ≤ n := by omega
  have h2 : (n : Int) ≤ 4294967295 := by omega
  generalize (n : Int) = n at *
  go_enter Tryz.func57, Tryz.ntmps57
  go_wp2
  refine bodyPost_ret (v := .agg #[.int .i64 (n / 32 / 64 / 32 / 32 / 16 + 1980), .int .i64 (n / 32 / 64 / 32 / 32 % 16), .int .i64 (n / 32 / 64 / 32 % 32), .int .i64 (n / 32 / 64 % 32), .int .i64 (n / 32 % 64), .int .i64 (2 * (n % 32))]) (by simp [results, Tryz.results57, go_sem]) rfl ⟨rfl, ?_⟩
  repeat (first | with_reducible exact On.refl _ | refine On.set ?_ (by simp) _ | refine On.alloc ?_ _)
/-- The number of so many bytes at a place; -1 if they are not there. -/
def numZ (s : ByteArray) (a n : Nat) : Int := if a + n ≤ s.size then (numAtB s a n : Nat) else -1
theorem snumz_calls (s : ByteArray) (a n : Nat) (hs : s.size ≤ 4294967296) (ha : a ≤ 4294967296) (hn : n ≤ 4) (w : World) :
    Calls Tryz.prog 29 #[.string s, .int .i64 a, .int .i64 n] w (fun e w' => e = .returned (.int .i64 (numZ s a n)) ∧ w' = w) := by
  unfold numZ
  by_cases h : a + n ≤ s.size
  · rw [if_pos h]; exact snum_calls s a n hs h hn w
  · rw [if_neg h]; exact snum_none s a n hs h ha hn w
theorem z0_calls (s : ByteArray) (hs : s.size ≤ 4294967296) (w : World) : Calls Tryz.prog 29 #[.string s, .int .i64 0, .int .i64 4] w (fun e w' => e = .returned (.int .i64 (numZ s 0 4)) ∧ w' = w) := by
  have h := snumz_calls s 0 4 hs (by decide) (by decide) w
  rw [show ((0 : Nat) : Int) = 0 from rfl, show ((4 : Nat) : Int) = 4 from rfl] at h
  exact h
theorem z4_calls (s : ByteArray) (hs : s.size ≤ 4294967296) (w : World) : Calls Tryz.prog 29 #[.string s, .int .i64 4, .int .i64 2] w (fun e w' => e = .returned (.int .i64 (numZ s 4 2)) ∧ w' = w) := by
  have h := snumz_calls s 4 2 hs (by decide) (by decide) w
  rw [show ((4 : Nat) : Int) = 4 from rfl, show ((2 : Nat) : Int) = 2 from rfl] at h
  exact h
theorem z6_calls (s : ByteArray) (hs : s.size ≤ 4294967296) (w : World) : Calls Tryz.prog 29 #[.string s, .int .i64 6, .int .i64 2] w (fun e w' => e = .returned (.int .i64 (numZ s 6 2)) ∧ w' = w) := by
  have h := snumz_calls s 6 2 hs (by decide) (by decide) w
  rw [show ((6 : Nat) : Int) = 6 from rfl, show ((2 : Nat) : Int) = 2 from rfl] at h
  exact h
theorem z8_calls (s : ByteArray) (hs : s.size ≤ 4294967296) (w : World) : Calls Tryz.prog 29 #[.string s, .int .i64 8, .int .i64 2] w (fun e w' => e = .returned (.int .i64 (numZ s 8 2)) ∧ w' = w) := by
  have h := snumz_calls s 8 2 hs (by decide) (by decide) w
  rw [show ((8 : Nat) : Int) = 8 from rfl, show ((2 : Nat) : Int) = 2 from rfl] at h
  exact h
theorem z10_calls (s : ByteArray) (hs : s.size ≤ 4294967296) (w : World) : Calls Tryz.prog 29 #[.string s, .int .i64 10, .int .i64 4] w (fun e w' => e = .returned (.int .i64 (numZ s 10 4)) ∧ w' = w) := by
  have h := snumz_calls s 10 4 hs (by decide) (by decide) w
  rw [show ((10 : Nat) : Int) = 10 from rfl, show ((4 : Nat) : Int) = 4 from rfl] at h
  exact h
theorem z14_calls (s : ByteArray) (hs : s.size ≤ 4294967296) (w : World) : Calls Tryz.prog 29 #[.string s, .int .i64 14, .int .i64 4] w (fun e w' => e = .returned (.int .i64 (numZ s 14 4)) ∧ w' = w) := by
  have h := snumz_calls s 14 4 hs (by decide) (by decide) w
  rw [show ((14 : Nat) : Int) = 14 from rfl, show ((4 : Nat) : Int) = 4 from rfl] at h
  exact h
theorem z18_calls (s : ByteArray) (hs : s.size ≤ 4294967296) (w : World) : Calls Tryz.prog 29 #[.string s, .int .i64 18, .int .i64 4] w (fun e w' => e = .returned (.int .i64 (numZ s 18 4)) ∧ w' = w) := by
  have h := snumz_calls s 18 4 hs (by decide) (by decide) w
  rw [show ((18 : Nat) : Int) = 18 from rfl, show ((4 : Nat) : Int) = 4 from rfl] at h
  exact h
theorem z22_calls (s : ByteArray) (hs : s.size ≤ 4294967296) (w : World) : Calls Tryz.prog 29 #[.string s, .int .i64 22, .int .i64 4] w (fun e w' => e = .returned (.int .i64 (numZ s 22 4)) ∧ w' = w) := by
  have h := snumz_calls s 22 4 hs (by decide) (by decide) w
  rw [show ((22 : Nat) : Int) = 22 from rfl, show ((4 : Nat) : Int) = 4 from rfl] at h
  exact h
theorem z26_calls (s : ByteArray) (hs : s.size ≤ 4294967296) (w : World) : Calls Tryz.prog 29 #[.string s, .int .i64 26, .int .i64 2] w (fun e w' => e = .returned (.int .i64 (numZ s 26 2)) ∧ w' = w) := by
  have h := snumz_calls s 26 2 hs (by decide) (by decide) w
  rw [show ((26 : Nat) : Int) = 26 from rfl, show ((2 : Nat) : Int) = 2 from rfl] at h
  exact h
theorem z28_calls (s : ByteArray) (hs : s.size ≤ 4294967296) (w : World) : Calls Tryz.prog 29 #[.string s, .int .i64 28, .int .i64 2] w (fun e w' => e = .returned (.int .i64 (numZ s 28 2)) ∧ w' = w) := by
  have h := snumz_calls s 28 2 hs (by decide) (by decide) w
  rw [show ((28 : Nat) : Int) = 28 from rfl, show ((2 : Nat) : Int) = 2 from rfl] at h
  exact h
/-- What is told of a file that was read, or of none. -/
structure RdIs (s : ByteArray) (f : Fi) (n : Int) (b : Bool) : Prop where
  ok : b = (locText s).isSome
  got : ∀ o, locText s = some o → f = fiOf s o ∧ n = (rdLong s : Nat)
theorem no_head {s : ByteArray} (h : ¬ headOk s) : locText s = none := by unfold locText; rw [if_neg h]
theorem numZ_bd (s : ByteArray) (a n : Nat) (hn : n ≤ 4) : -1 ≤ numZ s a n ∧ numZ s a n ≤ 4294967295 := by
  unfold numZ
  have h1 := numAtB_lt s a n
  have h2 : 256 ^ n ≤ 256 ^ 4 := Nat.pow_le_pow_right (by decide) hn
  split <;> omega
theorem numZ_in {s : ByteArray} {a n : Nat} (h : a + n ≤ s.size) : numZ s a n = (numAtB s a n : Nat) := by unfold numZ; rw [if_pos h]
theorem head_arms {s : ByteArray} (h : ¬ headOk s) : numZ s 0 4 ≠ 67324752 ∨ (numZ s 0 4 = 67324752 ∧ numZ s 4 2 ≠ 20) ∨ (numZ s 0 4 = 67324752 ∧ numZ s 4 2 = 20 ∧ numZ s 6 2 ≠ 0) ∨ (numZ s 0 4 = 67324752 ∧ numZ s 4 2 = 20 ∧ numZ s 6 2 = 0 ∧ numZ s 28 2 ≠ 0) ∨
    (numZ s 0 4 = 67324752 ∧ numZ s 4 2 = 20 ∧ numZ s 6 2 = 0 ∧ numZ s 28 2 = 0 ∧ ¬ numZ s 26 2 < 0 ∧ ¬ numZ s 18 4 < 0 ∧ (s.size : Int) < 30 + numZ s 26 2 + numZ s 18 4) := by
  by_cases h30 : 30 ≤ s.size
  · rw [numZ_in (s := s) (a := 0) (n := 4) (by omega), numZ_in (s := s) (a := 4) (n := 2) (by omega), numZ_in (s := s) (a := 6) (n := 2) (by omega), numZ_in (s := s) (a := 28) (n := 2) (by omega), numZ_in (s := s) (a := 26) (n := 2) (by omega), numZ_in (s := s) (a := 18) (n := 4) (by omega)]
    by_cases h0 : numAtB s 0 4 = 67324752
    · by_cases h4 : numAtB s 4 2 = 20
      · by_cases h6 : numAtB s 6 2 = 0
        · by_cases h28 : numAtB s 28 2 = 0
          · have : ¬ 30 + numAtB s 26 2 + numAtB s 18 4 ≤ s.size := fun hf => h ⟨h30, h0, h4, h6, h28, hf⟩
            omega
          · omega
        · omega
      · omega
    · omega
  · have e : numZ s 28 2 = -1 := by unfold numZ; rw [if_neg (by omega)]
    omega
set_option maxRecDepth 100000 in
set_option maxHeartbeats 4000000 in
theorem sread_no (s : ByteArray) (hs : s.size ≤ 1048576) (hh : ¬ headOk s) (w : World) :
    Calls Tryz.prog 34 #[.string s] w (Tells w (.tuple #[.agg zero8, .int .i64 0, .bool false])) := by
  have Z26 := Lib.hid (fun w => z26_calls s (by omega) w)
  have Z18 := Lib.hid (fun w => z18_calls s (by omega) w)
  have Z0 := Lib.hid (fun w => z0_calls s (by omega) w)
  have Z4 := Lib.hid (fun w => z4_calls s (by omega) w)
  have Z6 := Lib.hid (fun w => z6_calls s (by omega) w)
  have Z28 := Lib.hid (fun w => z28_calls s (by omega) w)
  have b26 := numZ_bd s 26 2 (by decide)
  have b18 := numZ_bd s 18 4 (by decide)
  have arms := head_arms hh
  clear hh
  generalize numZ s 26 2 = v26 at *
  generalize numZ s 18 4 = v18 at *
  generalize numZ s 0 4 = v0 at *
  generalize numZ s 4 2 = v4 at *
  generalize numZ s 6 2 = v6 at *
  generalize numZ s 28 2 = v28 at *
  obtain ⟨b26a, b26b⟩ := b26
  obtain ⟨b18a, b18b⟩ := b18
  rcases arms with a | ⟨rfl, a⟩ | ⟨rfl, rfl, a⟩ | ⟨rfl, rfl, rfl, a⟩ | ⟨rfl, rfl, rfl, rfl, n26, n18, a⟩
  · have a2 : (v0 == 67324752) = false := by simpa using a
    go_enter Tryz.func34, Tryz.ntmps34
    have BR := Blk.new w 42 zero8
    have OA := (On.refl w).alloc (.cells zero8 42)
    go_upto_region 1 with fail
    generalize hP : w.heap.size = p at *
    generalize w.alloc (.cells zero8 42) = wa at *
    obtain ⟨r0, r1, r2, r3, r4, r5, r6, r7⟩ := cells8 BR
    have fr : ∀ i, wa.frozen? ⟨p, i, none⟩ = false := BR.frozen
    go_wp2_with fail
    refine (Z26.out _).mono ?_
    rintro e w' ⟨rfl, hw⟩
    rw [hw]
    clear hw
    go_wp2_with fail
    refine (Z18.out _).mono ?_
    rintro e w' ⟨rfl, hw⟩
    rw [hw]
    clear hw
    go_wp2_with fail
    refine (Z0.out _).mono ?_
    rintro e w' ⟨rfl, hw⟩
    rw [hw]
    clear hw
    go_wp2_with fail
    have BF := set8 BR (.string ⟨#[]⟩) (.int .i64 0) (.int .i64 0) (.int .i64 0) (.int .i64 0) (.int .i64 0) (.int .i64 0) (.string ⟨#[]⟩)
    refine bodyPost_ret (v := .tuple #[.agg zero8, .int .i64 0, .bool false]) (by exact res_ctt (fn := Tryz.f34) (p := 2) (u := 3) (v := 4) rfl BF rfl Tryz.underlying42 rfl (by kernel_rfl)) rfl ⟨rfl, ?_⟩
    repeat (first | with_reducible exact OA | refine On.set ?_ (show w.heap.size ≤ p by omega) _)
  · have a2 : (v4 == 20) = false := by simpa using a
    go_enter Tryz.func34, Tryz.ntmps34
    have BR := Blk.new w 42 zero8
    have OA := (On.refl w).alloc (.cells zero8 42)
    go_upto_region 1 with fail
    generalize hP : w.heap.size = p at *
    generalize w.alloc (.cells zero8 42) = wa at *
    obtain ⟨r0, r1, r2, r3, r4, r5, r6, r7⟩ := cells8 BR
    have fr : ∀ i, wa.frozen? ⟨p, i, none⟩ = false := BR.frozen
    go_wp2_with fail
    refine (Z26.out _).mono ?_
    rintro e w' ⟨rfl, hw⟩
    rw [hw]
    clear hw
    go_wp2_with fail
    refine (Z18.out _).mono ?_
    rintro e w' ⟨rfl, hw⟩
    rw [hw]
    clear hw
    go_wp2_with fail
    refine (Z0.out _).mono ?_
    rintro e w' ⟨rfl, hw⟩
    rw [hw]
    clear hw
    go_wp2_with fail
    refine (Z4.out _).mono ?_
    rintro e w' ⟨rfl, hw⟩
    rw [hw]
    clear hw
    go_wp2_with fail
    have BF := set8 BR (.string ⟨#[]⟩) (.int .i64 0) (.int .i64 0) (.int .i64 0) (.int .i64 0) (.int .i64 0) (.int .i64 0) (.string ⟨#[]⟩)
    refine bodyPost_ret (v := .tuple #[.agg zero8, .int .i64 0, .bool false]) (by exact res_ctt (fn := Tryz.f34) (p := 2) (u := 3) (v := 4) rfl BF rfl Tryz.underlying42 rfl (by kernel_rfl)) rfl ⟨rfl, ?_⟩
    repeat (first | with_reducible exact OA | refine On.set ?_ (show w.heap.size ≤ p by omega) _)
  · have a2 : (v6 == 0) = false := by simpa using a
    go_enter Tryz.func34, Tryz.ntmps34
    have BR := Blk.new w 42 zero8
    have OA := (On.refl w).alloc (.cells zero8 42)
    go_upto_region 1 with fail
    generalize hP : w.heap.size = p at *
    generalize w.alloc (.cells zero8 42) = wa at *
    obtain ⟨r0, r1, r2, r3, r4, r5, r6, r7⟩ := cells8 BR
    have fr : ∀ i, wa.frozen? ⟨p, i, none⟩ = false := BR.frozen
    go_wp2_with fail
    refine (Z26.out _).mono ?_
    rintro e w' ⟨rfl, hw⟩
    rw [hw]
    clear hw
    go_wp2_with fail
    refine (Z18.out _).mono ?_
    rintro e w' ⟨rfl, hw⟩
    rw [hw]
    clear hw
    go_wp2_with fail
    refine (Z0.out _).mono ?_
    rintro e w' ⟨rfl, hw⟩
    rw [hw]
    clear hw
    go_wp2_with fail
    refine (Z4.out _).mono ?_
    rintro e w' ⟨rfl, hw⟩
    rw [hw]
    clear hw
    go_wp2_with fail
    refine (Z6.out _).mono ?_
    rintro e w' ⟨rfl, hw⟩
    rw [hw]
    clear hw
    go_wp2_with fail
    have BF := set8 BR (.string ⟨#[]⟩) (.int .i64 0) (.int .i64 0) (.int .i64 0) (.int .i64 0) (.int .i64 0) (.int .i64 0) (.string ⟨#[]⟩)
    refine bodyPost_ret (v := .tuple #[.agg zero8, .int .i64 0, .bool false]) (by exact res_ctt (fn := Tryz.f34) (p := 2) (u := 3) (v := 4) rfl BF rfl Tryz.underlying42 rfl (by kernel_rfl)) rfl ⟨rfl, ?_⟩
    repeat (first | with_reducible exact OA | refine On.set ?_ (show w.heap.size ≤ p by omega) _)
  · have a2 : (v28 == 0) = false := by simpa using a
    go_enter Tryz.func34, Tryz.ntmps34
    have BR := Blk.new w 42 zero8
    have OA := (On.refl w).alloc (.cells zero8 42)
    go_upto_region 1 with fail
    generalize hP : w.heap.size = p at *
    generalize w.alloc (.cells zero8 42) = wa at *
    obtain ⟨r0, r1, r2, r3, r4, r5, r6, r7⟩ := cells8 BR
    have fr : ∀ i, wa.frozen? ⟨p, i, none⟩ = false := BR.frozen
    go_wp2_with fail
    refine (Z26.out _).mono ?_
    rintro e w' ⟨rfl, hw⟩
    rw [hw]
    clear hw
    go_wp2_with fail
    refine (Z18.out _).mono ?_
    rintro e w' ⟨rfl, hw⟩
    rw [hw]
    clear hw
    go_wp2_with fail
    refine (Z0.out _).mono ?_
    rintro e w' ⟨rfl, hw⟩
    rw [hw]
    clear hw
    go_wp2_with fail
    refine (Z4.out _).mono ?_
    rintro e w' ⟨rfl, hw⟩
    rw [hw]
    clear hw
    go_wp2_with fail
    refine (Z6.out _).mono ?_
    rintro e w' ⟨rfl, hw⟩
    rw [hw]
    clear hw
    go_wp2_with fail
    refine (Z28.out _).mono ?_
    rintro e w' ⟨rfl, hw⟩
    rw [hw]
    clear hw
    go_wp2_with fail
    have BF := set8 BR (.string ⟨#[]⟩) (.int .i64 0) (.int .i64 0) (.int .i64 0) (.int .i64 0) (.int .i64 0) (.int .i64 0) (.string ⟨#[]⟩)
    refine bodyPost_ret (v := .tuple #[.agg zero8, .int .i64 0, .bool false]) (by exact res_ctt (fn := Tryz.f34) (p := 2) (u := 3) (v := 4) rfl BF rfl Tryz.underlying42 rfl (by kernel_rfl)) rfl ⟨rfl, ?_⟩
    repeat (first | with_reducible exact OA | refine On.set ?_ (show w.heap.size ≤ p by omega) _)
  · have e1 : IntKind.i64.wrap (30 + v26) = 30 + v26 := by rw [IntKind.wrap_i64]; omega
    have e2 : IntKind.i64.wrap (30 + v26 + v18) = 30 + v26 + v18 := by rw [IntKind.wrap_i64]; omega
    go_enter Tryz.func34, Tryz.ntmps34
    have BR := Blk.new w 42 zero8
    have OA := (On.refl w).alloc (.cells zero8 42)
    go_upto_region 1 with fail
    generalize hP : w.heap.size = p at *
    generalize w.alloc (.cells zero8 42) = wa at *
    obtain ⟨r0, r1, r2, r3, r4, r5, r6, r7⟩ := cells8 BR
    have fr : ∀ i, wa.frozen? ⟨p, i, none⟩ = false := BR.frozen
    go_wp2_with fail
    refine (Z26.out _).mono ?_
    rintro e w' ⟨rfl, hw⟩
    rw [hw]
    clear hw
    go_wp2_with fail
    refine (Z18.out _).mono ?_
    rintro e w' ⟨rfl, hw⟩
    rw [hw]
    clear hw
    go_wp2_with fail
    refine (Z0.out _).mono ?_
    rintro e w' ⟨rfl, hw⟩
    rw [hw]
    clear hw
    go_wp2_with fail
    refine (Z4.out _).mono ?_
    rintro e w' ⟨rfl, hw⟩
    rw [hw]
    clear hw
    go_wp2_with fail
    refine (Z6.out _).mono ?_
    rintro e w' ⟨rfl, hw⟩
    rw [hw]
    clear hw
    go_wp2_with fail
    refine (Z28.out _).mono ?_
    rintro e w' ⟨rfl, hw⟩
    rw [hw]
    clear hw
    go_wp2_with fail
    have BF := set8 BR (.string ⟨#[]⟩) (.int .i64 0) (.int .i64 0) (.int .i64 0) (.int .i64 0) (.int .i64 0) (.int .i64 0) (.string ⟨#[]⟩)
    refine bodyPost_ret (v := .tuple #[.agg zero8, .int .i64 0, .bool false]) (by exact res_ctt (fn := Tryz.f34) (p := 2) (u := 3) (v := 4) rfl BF rfl Tryz.underlying42 rfl (by kernel_rfl)) rfl ⟨rfl, ?_⟩
    repeat (first | with_reducible exact OA | refine On.set ?_ (show w.heap.size ≤ p by omega) _)
end Go.Proofs.YtnadjlejlohgiaaGreatDoor.Lc

