/- The walk of the law FnExactStampGet: at every number it returns true and keeps what was. No condition. -/
import Derived.Test.YtmkhhpnagmkgeaaStampGet
namespace Go.Proofs.Ytmkhhpnagmkgeaa.StampGet
open Go.RowKit Go.Proofs.Ytmkhhpnagmkgeaa.Mem Go.Proofs.Ytmkhhpnagmkgeaa.PFnStampLast Go.Proofs.YtmkhhpnagmkgeaaW.PrintWords Go.Proofs.YtmkhhpnagmkgeaaW.PrintLast Go.Proofs.YtmkhhpnagmkgeaaW.PrintMore
set_option linter.unusedVariables false
set_option maxRecDepth 100000 in
set_option maxHeartbeats 400000 in
/-- The law: it returns true. -/
theorem law_get (n : Int) (h1 : n < 9223372036854775808) (w : World) : Calls Try.prog 8 #[.int .i64 n] w (Told w (.bool true)) := by
  go_enter Try.func8, Try.ntmps8
  go_wp2_with fail
  refine (sget_calls n _).mono ?_
  rintro e w1 ⟨rfl, O⟩
  unfold tup
  generalize hx0 : get n = x
  obtain ⟨y, m, d, h, mi, s, b⟩ := x
  have HX := Lib.hid hx0
  clear hx0
  go_wp2_with fail
  refine (iget_calls n h1 _).mono ?_
  rintro e w2 ⟨rfl, O2⟩
  unfold tup
  rw [HX.out]
  have B := O2.blk (Blk.new w1 25 #[.int .i64 y, .int .i64 m, .int .i64 d, .int .i64 h, .int .i64 mi, .int .i64 s])
  replace O := (O.alloc _).call O2
  clear O2
  have c0 : w2.cell? ⟨w1.heap.size, 0, none⟩ = some _ := (B.cell 0).trans rfl
  have c1 : w2.cell? ⟨w1.heap.size, 1, none⟩ = some _ := (B.cell 1).trans rfl
  have c2 : w2.cell? ⟨w1.heap.size, 2, none⟩ = some _ := (B.cell 2).trans rfl
  have c3 : w2.cell? ⟨w1.heap.size, 3, none⟩ = some _ := (B.cell 3).trans rfl
  have c4 : w2.cell? ⟨w1.heap.size, 4, none⟩ = some _ := (B.cell 4).trans rfl
  have c5 : w2.cell? ⟨w1.heap.size, 5, none⟩ = some _ := (B.cell 5).trans rfl
  have fr : ∀ i, w2.frozen? ⟨w1.heap.size, i, none⟩ = false := B.frozen
  have lt := B.lt
  go_wp2_with fail
  refine (eqstamp_calls y m d h mi s _).mono ?_
  rintro e w3 ⟨rfl, O3⟩
  have hb : (b != b) = false := by simp
  have hb2 : (b == b) = true := by simp
  go_wp2_with fail
  go_ret
  exact ⟨rfl, (O.alloc _).call O3⟩
theorem law_walk (n : Int) (w : World) (w0 : (Lit.int .i64 n).wf = true) : Calls Try.prog 8 #[.int .i64 n] w fun e w' => e = .returned (.bool true) ∧ Below w.heap.size w w' := by
  have h : -9223372036854775808 ≤ n ∧ n ≤ 9223372036854775807 := by simpa [Lit.wf, IntKind.min, IntKind.max, IntKind.signed, IntKind.bits] using w0
  exact (law_get n (by omega) w).mono fun _ _ h => ⟨h.1, h.2.out⟩
end Go.Proofs.Ytmkhhpnagmkgeaa.StampGet
