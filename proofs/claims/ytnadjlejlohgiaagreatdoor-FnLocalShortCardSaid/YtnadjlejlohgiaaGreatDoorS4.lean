/- Own texts joined: Sn. -/
import Derived.Laws.BitsLemmas
import Derived.Deep.DeepCutAuto
import Derived.Test.YtnadjlejlohgiaaGreatDoorS3
/- Stamps as numbers: both programs' ways to write one that is ok. -/
namespace Go.Proofs.YtnadjlejlohgiaaGreatDoor.Nm
open Go.RowKit Go.Proofs.YtnadjlejlohgiaaGreatDoor.Mem
set_option linter.unusedVariables false
set_option linter.unusedSimpArgs false
theorem swr_i64 (n : Int) (h₀ : 0 ≤ n) (h₁ : n < 2 ^ 63) : IntKind.i64.wrap n = n := by rw [IntKind.wrap_i64]; omega
theorem or_add (i : Nat) {x y : Int} (h0 : 0 ≤ x) (hx : x % 2 ^ i = 0) (h1 : x < 9223372036854775808) (y0 : 0 ≤ y) (y1 : y < 2 ^ i) (y2 : y < 9223372036854775808) : Go.bits .or .i64 x y = x + y :=
  bits_join .i64 63 (by decide) swr_i64 i x y h0 hx (by omega) y0 y1 (by omega)
theorem or_comm (x y : Int) : Go.bits .or .i64 x y = Go.bits .or .i64 y x := by
  simp only [Go.bits]; rw [BitVec.or_comm]
theorem or_lo (i : Nat) {x y : Int} (x0 : 0 ≤ x) (x1 : x < 2 ^ i) (x2 : x < 9223372036854775808) (h0 : 0 ≤ y) (hy : y % 2 ^ i = 0) (h1 : y < 9223372036854775808) : Go.bits .or .i64 x y = x + y := by
  rw [or_comm, or_add i h0 hy h1 x0 x1 x2]; omega
/-- A stamp's number. -/
def stampN (y m d h mi s : Int) : Int := (y - 1980) * 33554432 + m * 2097152 + d * 65536 + h * 2048 + mi * 32 + s / 2
theorem stampN_bd {y m d h mi s : Int} (ok : okp y m d h mi s) : 0 ≤ stampN y m d h mi s ∧ stampN y m d h mi s < 4294967296 := by
  obtain ⟨⟨a1, a2⟩, ⟨b1, b2⟩, ⟨c1, c2⟩, ⟨d1, d2⟩, ⟨e1, e2⟩, ⟨f1, f2⟩, g⟩ := ok
  have c3 := dd_le y m
  unfold stampN
  omega
set_option maxRecDepth 100000 in
set_option maxHeartbeats 1000000 in
theorem sput_calls (y m d h mi s : Int) (ok : okp y m d h mi s) (w : World) :
    Calls Tryz.prog 119 #[.agg #[.int .i64 y, .int .i64 m, .int .i64 d, .int .i64 h, .int .i64 mi, .int .i64 s]] w (Tells w (.int .i64 (stampN y m d h mi s))) := by
  obtain ⟨⟨a1, a2⟩, ⟨b1, b2⟩, ⟨c1, c2⟩, ⟨d1, d2⟩, ⟨f1, f2⟩, ⟨g1, g2⟩, g⟩ := ok
  have c3 := dd_le y m
  have OA := (On.refl w).alloc (.cells #[.int .i64 y, .int .i64 m, .int .i64 d, .int .i64 h, .int .i64 mi, .int .i64 s] 40)
  obtain ⟨n1, h1⟩ : ∃ n, n = y - 1980 := ⟨_, rfl⟩
  obtain ⟨n2, h2⟩ : ∃ n, n = n1 * 16 := ⟨_, rfl⟩
  obtain ⟨n3, h3⟩ : ∃ n, n = n2 + m := ⟨_, rfl⟩
  obtain ⟨n4, h4⟩ : ∃ n, n = n3 * 32 := ⟨_, rfl⟩
  obtain ⟨n5, h5⟩ : ∃ n, n = n4 + d := ⟨_, rfl⟩
  obtain ⟨n6, h6⟩ : ∃ n, n = n5 * 32 := ⟨_, rfl⟩
  obtain ⟨n7, h7⟩ : ∃ n, n = n6 + h := ⟨_, rfl⟩
  obtain ⟨n8, h8⟩ : ∃ n, n = n7 * 64 := ⟨_, rfl⟩
  obtain ⟨n9, h9⟩ : ∃ n, n = n8 + mi := ⟨_, rfl⟩
  obtain ⟨n10, h10⟩ : ∃ n, n = n9 * 32 := ⟨_, rfl⟩
  obtain ⟨q, hq⟩ : ∃ n, n = s / 2 := ⟨_, rfl⟩
  obtain ⟨n11, h11⟩ : ∃ n, n = n10 + q := ⟨_, rfl⟩
  have e1 : IntKind.i64.wrap (y - 1980) = n1 := by rw [IntKind.wrap_i64]; omega
  have e2 : IntKind.i64.wrap (n1 * 16) = n2 := by rw [IntKind.wrap_i64]; omega
  have e3 : IntKind.i64.wrap (n2 + m) = n3 := by rw [IntKind.wrap_i64]; omega
  have e4 : IntKind.i64.wrap (n3 * 32) = n4 := by rw [IntKind.wrap_i64]; omega
  have e5 : IntKind.i64.wrap (n4 + d) = n5 := by rw [IntKind.wrap_i64]; omega
  have e6 : IntKind.i64.wrap (n5 * 32) = n6 := by rw [IntKind.wrap_i64]; omega
  have e7 : IntKind.i64.wrap (n6 + h) = n7 := by rw [IntKind.wrap_i64]; omega
  have e8 : IntKind.i64.wrap (n7 * 64) = n8 := by rw [IntKind.wrap_i64]; omega
  have e9 : IntKind.i64.wrap (n8 + mi) = n9 := by rw [IntKind.wrap_i64]; omega
  have e10 : IntKind.i64.wrap (n9 * 32) = n10 := by rw [IntKind.wrap_i64]; omega
  have eq : Int.tdiv s 2 = q := by rw [Int.tdiv_eq_ediv_of_nonneg g1]; omega
  have e11 : IntKind.i64.wrap (n10 + q) = n11 := by rw [IntKind.wrap_i64]; omega
  have e12 : wrap64 q = q := by unfold wrap64; omega
  have e13 : wrap64 (n10 + q) = n11 := by unfold wrap64; omega
  have HN : RowKit.Hid (n11 = stampN y m d h mi s) := Lib.hid (by unfold stampN; omega)
  generalize stampN y m d h mi s = N at *
  clear a1 a2 b1 b2 c1 c2 c3 d1 d2 f1 f2 g1 g2 g h1 h2 h3 h4 h5 h6 h7 h8 h9 h10 h11 hq
  go_enter Tryz.func119, Tryz.ntmps119
  go_wp2_with fail
  go_ret
  exact ⟨by rw [← HN.out]; rfl, OA⟩
set_option maxRecDepth 100000 in
set_option maxHeartbeats 1000000 in
theorem iput_calls (y m d h mi s : Int) (ok : okp y m d h mi s) (w : World) :
    Calls Tryz.prog 79 #[.agg #[.int .i64 y, .int .i64 m, .int .i64 d, .int .i64 h, .int .i64 mi, .int .i64 s]] w (Tells w (.int .i64 (stampN y m d h mi s))) := by
  have HK := Lib.hid (fun w => iok_calls y m d h mi s w)
  rw [decide_eq_true ok] at HK
  obtain ⟨⟨a1, a2⟩, ⟨b1, b2⟩, ⟨c1, c2⟩, ⟨d1, d2⟩, ⟨f1, f2⟩, ⟨g1, g2⟩, g⟩ := ok
  have c3 := dd_le y m
  have OA := (On.refl w).alloc (.cells #[.int .i64 y, .int .i64 m, .int .i64 d, .int .i64 h, .int .i64 mi, .int .i64 s] 40)
  have BA := Blk.new w 40 #[.int .i64 y, .int .i64 m, .int .i64 d, .int .i64 h, .int .i64 mi, .int .i64 s]
  go_enter Tryz.func79, Tryz.ntmps79
  go_wp2_with fail
  generalize hP : w.heap.size = p at *
  generalize w.alloc (.cells #[.int .i64 y, .int .i64 m, .int .i64 d, .int .i64 h, .int .i64 mi, .int .i64 s] 40) = wa at *
  refine (HK.out wa).mono ?_
  rintro e w1 ⟨rfl, O1⟩
  have B1 := BA.call O1.out
  have x0 : w1.cell? ⟨p, 0, none⟩ = some (.int .i64 y) := (B1.cell 0).trans rfl
  have x1 : w1.cell? ⟨p, 1, none⟩ = some (.int .i64 m) := (B1.cell 1).trans rfl
  have x2 : w1.cell? ⟨p, 2, none⟩ = some (.int .i64 d) := (B1.cell 2).trans rfl
  have x3 : w1.cell? ⟨p, 3, none⟩ = some (.int .i64 h) := (B1.cell 3).trans rfl
  have x4 : w1.cell? ⟨p, 4, none⟩ = some (.int .i64 mi) := (B1.cell 4).trans rfl
  have x5 : w1.cell? ⟨p, 5, none⟩ = some (.int .i64 s) := (B1.cell 5).trans rfl
  have HV : RowKit.Hid (Go.bits .or .i64 (Go.bits .or .i64 (Go.bits .or .i64 (Go.bits .or .i64 (Go.bits .or .i64 (s / 2) (mi * 32)) (h * 2048)) (d * 65536)) (m * 2097152)) ((y - 1980) * 33554432) = stampN y m d h mi s) := Lib.hid (by
    rw [or_lo 5 (x := s / 2) (y := mi * 32) (by omega) (by omega) (by omega) (by omega) (by omega) (by omega)]
    rw [or_lo 11 (x := s / 2 + mi * 32) (y := h * 2048) (by omega) (by omega) (by omega) (by omega) (by omega) (by omega)]
    rw [or_lo 16 (x := s / 2 + mi * 32 + h * 2048) (y := d * 65536) (by omega) (by omega) (by omega) (by omega) (by omega) (by omega)]
    rw [or_lo 21 (x := s / 2 + mi * 32 + h * 2048 + d * 65536) (y := m * 2097152) (by omega) (by omega) (by omega) (by omega) (by omega) (by omega)]
    rw [or_lo 25 (x := s / 2 + mi * 32 + h * 2048 + d * 65536 + m * 2097152) (y := (y - 1980) * 33554432) (by omega) (by omega) (by omega) (by omega) (by omega) (by omega)]
    unfold stampN
    omega)
  go_wp2_with fail
  go_ret
  exact ⟨by rw [← HV.out]; rfl, OA.call O1⟩
end Go.Proofs.YtnadjlejlohgiaaGreatDoor.Nm

