/- Own texts joined: Sn, Hd. -/
import Derived.Laws.BitsLemmas
import Derived.Deep.DeepCutAuto
import Derived.Deep.RegionHeld3
import Derived.Test.YtnadjlejlohgiaaGreatDoorW4
import Derived.Test.YtnadjlejlohgiaaGreatDoorW6
import Derived.Test.YtnadjlejlohgiaaGreatDoorW9
/- Stamps as numbers: both programs' ways to write one that is ok. -/
namespace Go.Proofs.YtnadjlejlohgiaaGreatDoor.Nm
open Go.RowKit Go.Proofs.YtnadjlejlohgiaaGreatDoor.Mem
set_option linter.unusedVariables false
set_option linter.unusedSimpArgs false
theorem swr_i64 (n : Int) (h₀ : 0 ≤ n) (h₁ : n < 2 ^ 63) : IntKind.i64.wrap n = n := by rw [IntKind.wrap_i64]; omega
theorem or_add (i : Nat) {x y : Int} (h0 : 0 ≤ x) (hx : x % 2 ^ i = 0) (h1 : x < 9223372036854775808) (y0 : 0 ≤ y) (y1 : y < 2 ^ i) (y2 : y < 9223372036854775808) : Go.bits .or .i64 x y = x + y :=
  bits_join .i64 63 (by decide) swr_i64 i x y h0 hx (by omega) y0 y1 (by omega)
theorem or_comm (x y : Int) : Go.bits .or .i64 x y = Go.bits .or .i64 y x := by
  simp only [Go.bits]; rw [BitVec.or_comm]
theorem or_lo (i : Nat) {x y : Int} (x0 : 0 ≤ x) (x1 : x < 2 ^ i) (x2 : x < 9223372036854775808) (h0 : 0 ≤ y) (hy : y % 2 ^ i = 0) (h1 : y < 9223372036854775808) : Go.bits .or .i64 x y = x + y := by
  rw [or_comm, or_add i h0 hy h1 x0 x1 x2]; omega
/-- A stamp's number. -/
def stampN (y m d h mi s : Int) : Int := (y - 1980) * 33554432 + m * 2097152 + d * 65536 + h * 2048 + mi * 32 + s / 2
theorem stampN_bd {y m d h mi s : Int} (ok : okp y m d h mi s) : 0 ≤ stampN y m d h mi s ∧ stampN y m d h mi s < 4294967296 := by
  obtain ⟨⟨a1, a2⟩, ⟨b1, b2⟩, ⟨c1, c2⟩, ⟨d1, d2⟩, ⟨e1, e2⟩, ⟨f1, f2⟩, g⟩ := ok
  have c3 := dd_le y m
  unfold stampN
  omega
set_option maxRecDepth 100000 in
set_option maxHeartbeats 1000000 in
theorem sput_calls (y m d h mi s : Int) (ok : okp y m d h mi s) (w : World) :
    Calls Tryz.prog 119 #[.agg #[.int .i64 y, .int .i64 m, .int .i64 d, .int .i64 h, .int .i64 mi, .int .i64 s]] w (Tells w (.int .i64 (stampN y m d h mi s))) := by
  obtain ⟨⟨a1, a2⟩, ⟨b1, b2⟩, ⟨c1, c2⟩, ⟨d1, d2⟩, ⟨f1, f2⟩, ⟨g1, g2⟩, g⟩ := ok
  have c3 := dd_le y m
  have OA := (On.refl w).alloc (.cells #[.int .i64 y, .int .i64 m, .int .i64 d, .int .i64 h, .int .i64 mi, .int .i64 s] 40)
  obtain ⟨n1, h1⟩ : ∃ n, n = y - 1980 := ⟨_, rfl⟩
  obtain ⟨n2, h2⟩ : ∃ n, n = n1 * 16 := ⟨_, rfl⟩
  obtain ⟨n3, h3⟩ : ∃ n, n = n2 + m := ⟨_, rfl⟩
  obtain ⟨n4, h4⟩ : ∃ n, n = n3 * 32 := ⟨_, rfl⟩
  obtain ⟨n5, h5⟩ : ∃ n, n = n4 + d := ⟨_, rfl⟩
  obtain ⟨n6, h6⟩ : ∃ n, n = n5 * 32 := ⟨_, rfl⟩
  obtain ⟨n7, h7⟩ : ∃ n, n = n6 + h := ⟨_, rfl⟩
  obtain ⟨n8, h8⟩ : ∃ n, n = n7 * 64 := ⟨_, rfl⟩
  obtain ⟨n9, h9⟩ : ∃ n, n = n8 + mi := ⟨_, rfl⟩
  obtain ⟨n10, h10⟩ : ∃ n, n = n9 * 32 := ⟨_, rfl⟩
  obtain ⟨q, hq⟩ : ∃ n, n = s / 2 := ⟨_, rfl⟩
  obtain ⟨n11, h11⟩ : ∃ n, n = n10 + q := ⟨_, rfl⟩
  have e1 : IntKind.i64.wrap (y - 1980) = n1 := by rw [IntKind.wrap_i64]; omega
  have e2 : IntKind.i64.wrap (n1 * 16) = n2 := by rw [IntKind.wrap_i64]; omega
  have e3 : IntKind.i64.wrap (n2 + m) = n3 := by rw [IntKind.wrap_i64]; omega
  have e4 : IntKind.i64.wrap (n3 * 32) = n4 := by rw [IntKind.wrap_i64]; omega
  have e5 : IntKind.i64.wrap (n4 + d) = n5 := by rw [IntKind.wrap_i64]; omega
  have e6 : IntKind.i64.wrap (n5 * 32) = n6 := by rw [IntKind.wrap_i64]; omega
  have e7 : IntKind.i64.wrap (n6 + h) = n7 := by rw [IntKind.wrap_i64]; omega
  have e8 : IntKind.i64.wrap (n7 * 64) = n8 := by rw [IntKind.wrap_i64]; omega
  have e9 : IntKind.i64.wrap (n8 + mi) = n9 := by rw [IntKind.wrap_i64]; omega
  have e10 : IntKind.i64.wrap (n9 * 32) = n10 := by rw [IntKind.wrap_i64]; omega
  have eq : Int.tdiv s 2 = q := by rw [Int.tdiv_eq_ediv_of_nonneg g1]; omega
  have e11 : IntKind.i64.wrap (n10 + q) = n11 := by rw [IntKind.wrap_i64]; omega
  have e12 : wrap64 q = q := by unfold wrap64; omega
  have e13 : wrap64 (n10 + q) = n11 := by unfold wrap64; omega
  have HN : RowKit.Hid (n11 = stampN y m d h mi s) := Lib.hid (by unfold stampN; omega)
  generalize stampN y m d h mi s = N at *
  clear a1 a2 b1 b2 c1 c2 c3 d1 d2 f1 f2 g1 g2 g h1 h2 h3 h4 h5 h6 h7 h8 h9 h10 h11 hq
  go_enter Tryz.func119, Tryz.ntmps119
  go_wp2_with fail
  go_ret
  exact ⟨by rw [← HN.out]; rfl, OA⟩
set_option maxRecDepth 100000 in
set_option maxHeartbeats 1000000 in
theorem iput_calls (y m d h mi s : Int) (ok : okp y m d h mi s) (w : World) :
    Calls Tryz.prog 79 #[.agg #[.int .i64 y, .int .i64 m, .int .i64 d, .int .i64 h, .int .i64 mi, .int .i64 s]] w (Tells w (.int .i64 (stampN y m d h mi s))) := by
  have HK := Lib.hid (fun w => iok_calls y m d h mi s w)
  rw [decide_eq_true ok] at HK
  obtain ⟨⟨a1, a2⟩, ⟨b1, b2⟩, ⟨c1, c2⟩, ⟨d1, d2⟩, ⟨f1, f2⟩, ⟨g1, g2⟩, g⟩ := ok
  have c3 := dd_le y m
  have OA := (On.refl w).alloc (.cells #[.int .i64 y, .int .i64 m, .int .i64 d, .int .i64 h, .int .i64 mi, .int .i64 s] 40)
  have BA := Blk.new w 40 #[.int .i64 y, .int .i64 m, .int .i64 d, .int .i64 h, .int .i64 mi, .int .i64 s]
  go_enter Tryz.func79, Tryz.ntmps79
  go_wp2_with fail
  generalize hP : w.heap.size = p at *
  generalize w.alloc (.cells #[.int .i64 y, .int .i64 m, .int .i64 d, .int .i64 h, .int .i64 mi, .int .i64 s] 40) = wa at *
  refine (HK.out wa).mono ?_
  rintro e w1 ⟨rfl, O1⟩
  have B1 := BA.call O1.out
  have x0 : w1.cell? ⟨p, 0, none⟩ = some (.int .i64 y) := (B1.cell 0).trans rfl
  have x1 : w1.cell? ⟨p, 1, none⟩ = some (.int .i64 m) := (B1.cell 1).trans rfl
  have x2 : w1.cell? ⟨p, 2, none⟩ = some (.int .i64 d) := (B1.cell 2).trans rfl
  have x3 : w1.cell? ⟨p, 3, none⟩ = some (.int .i64 h) := (B1.cell 3).trans rfl
  have x4 : w1.cell? ⟨p, 4, none⟩ = some (.int .i64 mi) := (B1.cell 4).trans rfl
  have x5 : w1.cell? ⟨p, 5, none⟩ = some (.int .i64 s) := (B1.cell 5).trans rfl
  have HV : RowKit.Hid (Go.bits .or .i64 (Go.bits .or .i64 (Go.bits .or .i64 (Go.bits .or .i64 (Go.bits .or .i64 (s / 2) (mi * 32)) (h * 2048)) (d * 65536)) (m * 2097152)) ((y - 1980) * 33554432) = stampN y m d h mi s) := Lib.hid (by
    rw [or_lo 5 (x := s / 2) (y := mi * 32) (by omega) (by omega) (by omega) (by omega) (by omega) (by omega)]
    rw [or_lo 11 (x := s / 2 + mi * 32) (y := h * 2048) (by omega) (by omega) (by omega) (by omega) (by omega) (by omega)]
    rw [or_lo 16 (x := s / 2 + mi * 32 + h * 2048) (y := d * 65536) (by omega) (by omega) (by omega) (by omega) (by omega) (by omega)]
    rw [or_lo 21 (x := s / 2 + mi * 32 + h * 2048 + d * 65536) (y := m * 2097152) (by omega) (by omega) (by omega) (by omega) (by omega) (by omega)]
    rw [or_lo 25 (x := s / 2 + mi * 32 + h * 2048 + d * 65536 + m * 2097152) (y := (y - 1980) * 33554432) (by omega) (by omega) (by omega) (by omega) (by omega) (by omega)]
    unfold stampN
    omega)
  go_wp2_with fail
  go_ret
  exact ⟨by rw [← HV.out]; rfl, OA.call O1⟩
end Go.Proofs.YtnadjlejlohgiaaGreatDoor.Nm

/- The head of a file in an archive, the program's. (Printed by tools/gen_hd.py.) -/
namespace Go.Proofs.YtnadjlejlohgiaaGreatDoor.Lc
open Go.RowKit Go.Proofs.YtnadjlejlohgiaaGreatDoor.Mem Go.Proofs.YtnadjlejlohgiaaGreatDoor.Nm Go.Proofs.YtnadjlejlohgiaaGreatDoor.Nb Go.Proofs.YtnadjlejlohgiaaGreatDoor.Cr
set_option linter.unusedVariables false
set_option linter.unusedSimpArgs false
def crcOf (s : ByteArray) : Nat := crcC (s.data.toList.map UInt8.toNat)
def nB (n v : Nat) : ByteArray := strB (numB n v)
theorem nB_size (n v : Nat) : (nB n v).size = n := by unfold nB; rw [strB_size, numB_length]
/-- A file's head: its way, how long it is packed. -/
def headB (nm : ByteArray) (y m d h mi s : Int) (tx : ByteArray) (mt pk : Nat) : ByteArray :=
  (((((((((⟨#[80, 75, 3, 4]⟩ ++ nB 2 20) ++ nB 2 0) ++ nB 2 mt) ++ nB 4 (stampN y m d h mi s).toNat) ++ nB 4 (crcOf tx)) ++ nB 4 pk) ++ nB 4 tx.size) ++ nB 2 nm.size) ++ nB 2 0)
theorem inB_calls (v n : Nat) (hv : v < 9223372036854775808) (hn : n ≤ 100) (w : World) :
    Calls Tryz.prog 64 #[.int .i64 v, .int .i64 n] w (fun e w' => e = .returned (.string (nB n v)) ∧ On w w') := inumber_calls v n hv hn w
theorem in2_calls (v : Nat) (hv : v < 9223372036854775808) (w : World) :
    Calls Tryz.prog 64 #[.int .i64 v, .int .i64 2] w (fun e w' => e = .returned (.string (nB 2 v)) ∧ On w w') := by
  have h := inB_calls v 2 hv (by decide) w
  rw [show ((2 : Nat) : Int) = 2 from rfl] at h
  exact h
theorem in4_calls (v : Nat) (hv : v < 9223372036854775808) (w : World) :
    Calls Tryz.prog 64 #[.int .i64 v, .int .i64 4] w (fun e w' => e = .returned (.string (nB 4 v)) ∧ On w w') := by
  have h := inB_calls v 4 hv (by decide) w
  rw [show ((4 : Nat) : Int) = 4 from rfl] at h
  exact h
theorem in20_calls (w : World) : Calls Tryz.prog 64 #[.int .i64 20, .int .i64 2] w (fun e w' => e = .returned (.string (nB 2 20)) ∧ On w w') := by
  have h := in2_calls 20 (by decide) w
  rw [show ((20 : Nat) : Int) = 20 from rfl] at h
  exact h
theorem in0_calls (w : World) : Calls Tryz.prog 64 #[.int .i64 0, .int .i64 2] w (fun e w' => e = .returned (.string (nB 2 0)) ∧ On w w') := by
  have h := in2_calls 0 (by decide) w
  rw [show ((0 : Nat) : Int) = 0 from rfl] at h
  exact h
set_option maxRecDepth 100000 in
set_option maxHeartbeats 4000000 in
theorem iheadof_calls (nm : ByteArray) (y m d h mi s : Int) (tx : ByteArray) (mt pk : Nat) (ok : okp y m d h mi s) (hn : nm.size ≤ 1000) (ht : tx.size ≤ 1000) (hm : mt ≤ 65535) (hp : pk ≤ 1000000) (w : World) :
    Calls Tryz.prog 51 #[.agg #[.string nm, .int .i64 y, .int .i64 m, .int .i64 d, .int .i64 h, .int .i64 mi, .int .i64 s, .string tx], .int .i64 mt, .int .i64 pk] w (Tells w (.string (headB nm y m d h mi s tx mt pk))) := by
  have HR := Lib.hid (show headB nm y m d h mi s tx mt pk = (((((((((⟨#[80, 75, 3, 4]⟩ ++ nB 2 20) ++ nB 2 0) ++ nB 2 mt) ++ nB 4 (stampN y m d h mi s).toNat) ++ nB 4 (crcOf tx)) ++ nB 4 pk) ++ nB 4 tx.size) ++ nB 2 nm.size) ++ nB 2 0) from rfl)
  generalize headB nm y m d h mi s tx mt pk = R at *
  have hbd := stampN_bd ok
  have HST := Lib.hid (fun w => iput_calls y m d h mi s ok w)
  obtain ⟨sn, hsn⟩ : ∃ sn : Nat, stampN y m d h mi s = (sn : Int) := ⟨(stampN y m d h mi s).toNat, by omega⟩
  rw [hsn] at HST HR hbd
  have hcl := crcC_lt tx
  have HCR := Lib.hid (fun w => icrc_calls tx (by omega) w)
  have HCE := Lib.hid (show crcOf tx = crcC (tx.data.toList.map UInt8.toNat) from rfl)
  rw [← HCE.out] at HCR hcl
  generalize crcOf tx = cr at *
  have hn20 := Lib.hid (fun w => in20_calls w)
  have hn0 := Lib.hid (fun w => in0_calls w)
  have hnm := Lib.hid (fun w => in2_calls mt (by omega) w)
  have hns := Lib.hid (fun w => in4_calls sn (by omega) w)
  have hnc := Lib.hid (fun w => in4_calls cr (by omega) w)
  have hnp := Lib.hid (fun w => in4_calls pk (by omega) w)
  have hnt := Lib.hid (fun w => in4_calls tx.size (by omega) w)
  have hnn := Lib.hid (fun w => in2_calls nm.size (by omega) w)
  have s1 := nB_size 2 20
  have s2 := nB_size 2 0
  have s3 := nB_size 2 mt
  have s4 := nB_size 4 sn
  have s5 := nB_size 4 cr
  have s6 := nB_size 4 pk
  have s7 := nB_size 4 tx.size
  have s8 := nB_size 2 nm.size
  rw [Int.toNat_natCast] at HR
  generalize nB 2 20 = b1 at *
  generalize nB 2 0 = b2 at *
  generalize nB 2 mt = b3 at *
  generalize nB 4 sn = b4 at *
  generalize nB 4 cr = b5 at *
  generalize nB 4 pk = b6 at *
  generalize nB 4 tx.size = b7 at *
  generalize nB 2 nm.size = b8 at *
  clear hsn hbd hcl HCE
  have OA := (On.refl w).alloc (.cells #[.string nm, .int .i64 y, .int .i64 m, .int .i64 d, .int .i64 h, .int .i64 mi, .int .i64 s, .string tx] 42)
  have BA := Blk.new w 42 #[.string nm, .int .i64 y, .int .i64 m, .int .i64 d, .int .i64 h, .int .i64 mi, .int .i64 s, .string tx]
  have HCS := Lib.hid (fun W (b : Blk W w.heap.size 42 #[.string nm, .int .i64 y, .int .i64 m, .int .i64 d, .int .i64 h, .int .i64 mi, .int .i64 s, .string tx]) => (⟨(b.cell 0).trans rfl, (b.cell 1).trans rfl, (b.cell 2).trans rfl, (b.cell 3).trans rfl, (b.cell 4).trans rfl, (b.cell 5).trans rfl, (b.cell 6).trans rfl, (b.cell 7).trans rfl⟩ :
    W.cell? ⟨w.heap.size, 0, none⟩ = some (.string nm) ∧ W.cell? ⟨w.heap.size, 1, none⟩ = some (.int .i64 y) ∧ W.cell? ⟨w.heap.size, 2, none⟩ = some (.int .i64 m) ∧ W.cell? ⟨w.heap.size, 3, none⟩ = some (.int .i64 d) ∧ W.cell? ⟨w.heap.size, 4, none⟩ = some (.int .i64 h) ∧ W.cell? ⟨w.heap.size, 5, none⟩ = some (.int .i64 mi) ∧ W.cell? ⟨w.heap.size, 6, none⟩ = some (.int .i64 s) ∧ W.cell? ⟨w.heap.size, 7, none⟩ = some (.string tx)))
  go_enter Tryz.func51, Tryz.ntmps51
  go_wp2_with fail
  generalize hP : w.heap.size = p at *
  generalize w.alloc (.cells #[.string nm, .int .i64 y, .int .i64 m, .int .i64 d, .int .i64 h, .int .i64 mi, .int .i64 s, .string tx] 42) = wa at *
  have HB := Lib.hid (fun W (O1 : On wa W) => HCS.out W (BA.call O1.out))
  clear HCS BA
  refine wp_region_held_drew (S := fun W => On wa W) (by kernel_rfl) (On.refl _).drew (fun hHeld => ?_)
  refine Tk.tk 4 ?_ rfl (.inl ⟨by rfl, ?_⟩) ?_
  rotate_left
  · intro w hSw; go_simp; first | done | with_reducible rfl
  try simp only [Act.put, Tk.s3]
  refine Tk.tk 7 ?_ rfl (.inl ⟨by rfl, ?_⟩) ?_
  rotate_left
  · intro w hSw; go_simp; first | done | with_reducible rfl
  try simp only [Act.put, Tk.s3]
  refine Tk.tk 8 ?_ rfl (.inl ⟨by rfl, ?_⟩) ?_
  rotate_left
  · intro w hSw; obtain ⟨q0, q1, q2, q3, q4, q5, q6, q7⟩ := HB.out w hSw; go_simp; first | done | with_reducible rfl
  try simp only [Act.put, Tk.s3]
  refine Tk.tk 12 ?_ rfl (.inl ⟨by rfl, ?_⟩) ?_
  rotate_left
  · intro w hSw; go_simp; first | done | with_reducible rfl
  try simp only [Act.put, Tk.s3]
  refine Tk.tk 13 ?_ rfl (.inl ⟨by rfl, ?_⟩) ?_
  rotate_left
  · intro w hSw; obtain ⟨q0, q1, q2, q3, q4, q5, q6, q7⟩ := HB.out w hSw; go_simp; first | done | with_reducible rfl
  try simp only [Act.put, Tk.s3]
  refine Tk.tk 17 ?_ rfl (.inl ⟨by rfl, ?_⟩) ?_
  rotate_left
  · intro w hSw; go_simp; first | done | with_reducible rfl
  try simp only [Act.put, Tk.s3]
  refine Tk.tk 20 ?_ rfl (.inl ⟨by rfl, ?_⟩) ?_
  rotate_left
  · intro w hSw; go_simp; first | done | with_reducible rfl
  try simp only [Act.put, Tk.s3]
  refine Tk.tk 21 ?_ rfl (.inl ⟨by rfl, ?_⟩) ?_
  rotate_left
  · intro w hSw; obtain ⟨q0, q1, q2, q3, q4, q5, q6, q7⟩ := HB.out w hSw; go_simp; first | done | with_reducible rfl
  try simp only [Act.put, Tk.s3]
  refine Tk.tk 22 ?_ rfl (.inl ⟨by rfl, ?_⟩) ?_
  rotate_left
  · intro w hSw; go_simp; first | done | with_reducible rfl
  try simp only [Act.put, Tk.s3]
  refine Tk.tk 25 ?_ rfl (.inl ⟨by rfl, ?_⟩) ?_
  rotate_left
  · intro w hSw; go_simp; first | done | with_reducible rfl
  try simp only [Act.put, Tk.s3]
  refine Tk.tk 26 ?_ rfl (.inl ⟨by rfl, ?_⟩) ?_
  rotate_left
  · intro w hSw; obtain ⟨q0, q1, q2, q3, q4, q5, q6, q7⟩ := HB.out w hSw; go_simp; first | done | with_reducible rfl
  try simp only [Act.put, Tk.s3]
  refine Tk.tk 27 ?_ rfl (.inl ⟨by rfl, ?_⟩) ?_
  rotate_left
  · intro w hSw; go_simp; first | done | with_reducible rfl
  try simp only [Act.put, Tk.s3]
  have O0 := (On.refl wa).drew
  refine Tk.rd 0 rfl fun K hK => ?_
  go_simp
  refine (hn20.out wa.drew).mono ?_
  rintro e w1 ⟨rfl, T1⟩
  have O1 := O0.call T1
  refine hK.out _ _ O1 (fun hHeld => ?_)
  clear hK K
  try simp only [Act.put, Tk.s3]
  refine Tk.tk 1 ?_ rfl (.inl ⟨by rfl, ?_⟩) ?_
  rotate_left
  · intro w hSw; go_simp; first | done | with_reducible rfl
  try simp only [Act.put, Tk.s3]
  refine Tk.rd 2 rfl fun K hK => ?_
  go_simp
  refine (hn0.out w1).mono ?_
  rintro e w2 ⟨rfl, T2⟩
  have O2 := O1.call T2
  refine hK.out _ _ O2 (fun hHeld => ?_)
  clear hK K
  try simp only [Act.put, Tk.s3]
  refine Tk.tk 3 ?_ rfl (.inl ⟨by rfl, ?_⟩) ?_
  rotate_left
  · intro w hSw; go_simp; first | done | with_reducible rfl
  try simp only [Act.put, Tk.s3]
  refine Tk.rd 5 rfl fun K hK => ?_
  go_simp
  refine (hnm.out w2).mono ?_
  rintro e w3 ⟨rfl, T3⟩
  have O3 := O2.call T3
  refine hK.out _ _ O3 (fun hHeld => ?_)
  clear hK K
  try simp only [Act.put, Tk.s3]
  refine Tk.tk 6 ?_ rfl (.inl ⟨by rfl, ?_⟩) ?_
  rotate_left
  · intro w hSw; go_simp; first | done | with_reducible rfl
  try simp only [Act.put, Tk.s3]
  refine Tk.rd 9 rfl fun K hK => ?_
  go_simp
  refine (HST.out w3).mono ?_
  rintro e w4 ⟨rfl, T4⟩
  have O4 := O3.call T4
  refine hK.out _ _ O4 (fun hHeld => ?_)
  clear hK K
  try simp only [Act.put, Tk.s3]
  refine Tk.rd 10 rfl fun K hK => ?_
  go_simp
  refine (hns.out w4).mono ?_
  rintro e w5 ⟨rfl, T5⟩
  have O5 := O4.call T5
  refine hK.out _ _ O5 (fun hHeld => ?_)
  clear hK K
  try simp only [Act.put, Tk.s3]
  refine Tk.tk 11 ?_ rfl (.inl ⟨by rfl, ?_⟩) ?_
  rotate_left
  · intro w hSw; go_simp; first | done | with_reducible rfl
  try simp only [Act.put, Tk.s3]
  refine Tk.rd 14 rfl fun K hK => ?_
  go_simp
  refine (HCR.out w5).mono ?_
  rintro e w' ⟨rfl, hw⟩
  rw [hw]
  clear hw
  refine hK.out _ _ O5 (fun hHeld => ?_)
  clear hK K
  try simp only [Act.put, Tk.s3]
  refine Tk.rd 15 rfl fun K hK => ?_
  go_simp
  refine (hnc.out w5).mono ?_
  rintro e w6 ⟨rfl, T6⟩
  have O6 := O5.call T6
  refine hK.out _ _ O6 (fun hHeld => ?_)
  clear hK K
  try simp only [Act.put, Tk.s3]
  refine Tk.tk 16 ?_ rfl (.inl ⟨by rfl, ?_⟩) ?_
  rotate_left
  · intro w hSw; go_simp; first | done | with_reducible rfl
  try simp only [Act.put, Tk.s3]
  refine Tk.rd 18 rfl fun K hK => ?_
  go_simp
  refine (hnp.out w6).mono ?_
  rintro e w7 ⟨rfl, T7⟩
  have O7 := O6.call T7
  refine hK.out _ _ O7 (fun hHeld => ?_)
  clear hK K
  try simp only [Act.put, Tk.s3]
  refine Tk.tk 19 ?_ rfl (.inl ⟨by rfl, ?_⟩) ?_
  rotate_left
  · intro w hSw; go_simp; first | done | with_reducible rfl
  try simp only [Act.put, Tk.s3]
  refine Tk.rd 23 rfl fun K hK => ?_
  go_simp
  refine (hnt.out w7).mono ?_
  rintro e w8 ⟨rfl, T8⟩
  have O8 := O7.call T8
  refine hK.out _ _ O8 (fun hHeld => ?_)
  clear hK K
  try simp only [Act.put, Tk.s3]
  refine Tk.tk 24 ?_ rfl (.inl ⟨by rfl, ?_⟩) ?_
  rotate_left
  · intro w hSw; go_simp; first | done | with_reducible rfl
  try simp only [Act.put, Tk.s3]
  refine Tk.rd 28 rfl fun K hK => ?_
  go_simp
  refine (hnn.out w8).mono ?_
  rintro e w9 ⟨rfl, T9⟩
  have O9 := O8.call T9
  refine hK.out _ _ O9 (fun hHeld => ?_)
  clear hK K
  try simp only [Act.put, Tk.s3]
  refine Tk.tk 29 ?_ rfl (.inl ⟨by rfl, ?_⟩) ?_
  rotate_left
  · intro w hSw; go_simp; first | done | with_reducible rfl
  try simp only [Act.put, Tk.s3]
  refine Tk.rd 30 rfl fun K hK => ?_
  go_simp
  refine (hn0.out w9).mono ?_
  rintro e w10 ⟨rfl, T10⟩
  have O10 := O9.call T10
  refine hK.out _ _ O10 (fun hHeld => ?_)
  clear hK K
  try simp only [Act.put, Tk.s3]
  refine Tk.tk 31 ?_ rfl (.inl ⟨by rfl, ?_⟩) ?_
  rotate_left
  · intro w hSw; go_simp; first | done | with_reducible rfl
  try simp only [Act.put, Tk.s3]
  refine Tk.rd 32 rfl fun K hK => ?_
  go_simp
  refine hK.out _ _ O10 (fun hHeld => ?_)
  clear hK K
  try simp only [Act.put, Tk.s3]
  refine wpAnyH_done (by kernel_rfl) ?_ _
  go_wp2_with fail
  go_ret
  exact ⟨by rw [HR.out]; rfl, OA.call O10⟩
end Go.Proofs.YtnadjlejlohgiaaGreatDoor.Lc

