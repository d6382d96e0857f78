/- The statement FnExactStampOk: at every stamp, whatever its six numbers are, the program and the reference answer the same, so the law returns true and its argument reads as before. No condition. -/
import Derived.Test.YtmkhhpnagmkgeaaRows
import Derived.Test.YtmkhhpnagmkgeaaPFnExactStampOkx3
import Derived.WalkKit
import Derived.ProofKit
import Derived.OpenShut
import Derived.ChangeOld
import Derived.Below
import Derived.SizedLaws
import Derived.Laws.BitsLemmas
namespace Go.Proofs.Ytmkhhpnagmkgeaa.fnExactStampOk
open Go.ChangeShapes Go.WideShapes Go.ChangeAt Go.RowKit
open Go.Proofs.Ytmkhhpnagmkgeaa.PFnExactStampOk Go.Proofs.YtmkhhpnagmkgeaaW.PrintWords Go.Proofs.YtmkhhpnagmkgeaaW.PrintLast Go.Proofs.YtmkhhpnagmkgeaaW.PrintMore
set_option linter.unusedVariables false
set_option linter.unusedSimpArgs false
theorem w64 {x : Int} (h1 : -9223372036854775808 ≤ x) (h2 : x < 9223372036854775808) : wrap64 x = x := by unfold wrap64; omega
theorem wr_i64 (n : Int) (h₀ : 0 ≤ n) (h₁ : n < 2 ^ 63) : IntKind.i64.wrap n = n := by rw [IntKind.wrap_i64]; omega
theorem and_mask (i : Nat) (hi : i ≤ 63) {x m : Int} (hm : m = 2 ^ i - 1) (h0 : 0 ≤ x) (h1 : x < 9223372036854775808) : Go.bits .and .i64 x m = x % 2 ^ i := by
  subst hm
  exact bits_mask .i64 63 (by decide) wr_i64 i hi x h0 (by omega)
theorem or_add (i : Nat) {x y : Int} (h0 : 0 ≤ x) (hx : x % 2 ^ i = 0) (h1 : x < 9223372036854775808) (y0 : 0 ≤ y) (y1 : y < 2 ^ i) (y2 : y < 9223372036854775808) : Go.bits .or .i64 x y = x + y :=
  bits_join .i64 63 (by decide) wr_i64 i x y h0 hx (by omega) y0 y1 (by omega)
theorem or_comm (x y : Int) : Go.bits .or .i64 x y = Go.bits .or .i64 y x := by
  simp only [Go.bits]; rw [BitVec.or_comm]
theorem or_lo (i : Nat) {x y : Int} (x0 : 0 ≤ x) (x1 : x < 2 ^ i) (x2 : x < 9223372036854775808) (h0 : 0 ≤ y) (hy : y % 2 ^ i = 0) (h1 : y < 9223372036854775808) : Go.bits .or .i64 x y = x + y := by
  rw [or_comm, or_add i h0 hy h1 x0 x1 x2]; omega
def dd (y m : Int) : Int := if m = 4 then 30 else if m = 6 then 30 else if m = 9 then 30 else if m = 11 then 30 else if m = 2 then (if Int.tmod y 4 = 0 then (if Int.tmod y 100 = 0 then (if Int.tmod y 400 = 0 then 29 else 28) else 29) else 28) else 31
theorem days_eq (k : Nat) (y m : Int) : spec_l6Days.f (k + 1) y m = some (dd y m) := by
  unfold spec_l6Days.f dd
  simp only [spec_l6Days.j0]
  by_cases h4 : m = 4
  · subst h4; simp
  by_cases h6 : m = 6
  · subst h6; simp
  by_cases h9 : m = 9
  · subst h9; simp
  by_cases h11 : m = 11
  · subst h11; simp
  have e : (m == 11) = false := by simp [h11]
  simp only [h4, h6, h9, h11, e, if_false]
  by_cases h2 : m = 2
  · simp only [h2, if_true]
    by_cases a : Int.tmod y 4 = 0 <;> by_cases b : Int.tmod y 100 = 0 <;> by_cases c : Int.tmod y 400 = 0 <;> simp [a, b, c]
  · simp [h2]
theorem dd_le (y m : Int) : dd y m ≤ 31 := by unfold dd; repeat' split
                                              all_goals omega
theorem in_eq (a b c : Int) : spec_l1In.f a b c = some (decide (b ≤ a ∧ a ≤ c)) := by
  unfold spec_l1In.f
  by_cases h : a ≥ b
  · have h' : b ≤ a := h
    rw [if_pos h]; simp [h']
  · have h' : ¬ b ≤ a := h
    rw [if_neg h]; simp [h']
def okp (y m d h mi s : Int) : Prop := (1980 ≤ y ∧ y ≤ 2107) ∧ (1 ≤ m ∧ m ≤ 12) ∧ (1 ≤ d ∧ d ≤ dd y m) ∧ (0 ≤ h ∧ h ≤ 23) ∧ (0 ≤ mi ∧ mi ≤ 59) ∧ (0 ≤ s ∧ s ≤ 58) ∧ Int.tmod s 2 = 0
instance decOkp (y m d h mi s : Int) : Decidable (okp y m d h mi s) := by unfold okp; infer_instance
theorem sok_eq (k : Nat) (y m d h mi s : Int) : spec_StampOk.f (k + 1) y m d h mi s = some (decide (okp y m d h mi s)) := by
  unfold spec_StampOk.f okp
  simp only [in_eq, days_eq, Option.bind_some, decide_eq_true_eq]
  by_cases h1 : 1980 ≤ y ∧ y ≤ 2107
  rotate_left
  · rw [if_neg h1]; simp [h1]
  by_cases h2 : 1 ≤ m ∧ m ≤ 12
  rotate_left
  · rw [if_pos h1, if_neg h2]; simp [h2]
  by_cases h3 : 1 ≤ d ∧ d ≤ dd y m
  rotate_left
  · rw [if_pos h1, if_pos h2, if_neg h3]; simp [h3]
  by_cases h4 : 0 ≤ h ∧ h ≤ 23
  rotate_left
  · rw [if_pos h1, if_pos h2, if_pos h3, if_neg h4]; simp [h4]
  by_cases h5 : 0 ≤ mi ∧ mi ≤ 59
  rotate_left
  · rw [if_pos h1, if_pos h2, if_pos h3, if_pos h4, if_neg h5]; simp [h5]
  by_cases h6 : 0 ≤ s ∧ s ≤ 58
  rotate_left
  · rw [if_pos h1, if_pos h2, if_pos h3, if_pos h4, if_pos h5, if_neg h6]; simp [h6]
  rw [if_pos h1, if_pos h2, if_pos h3, if_pos h4, if_pos h5, if_pos h6]
  have e : (Int.tmod s 2 == 0) = decide (Int.tmod s 2 = 0) := by rw [Bool.eq_iff_iff]; simp
  rw [e]
  congr 1
  exact decide_eq_decide.2 ⟨fun t => ⟨h1, h2, h3, h4, h5, h6, t⟩, fun t => t.2.2.2.2.2.2⟩
theorem iok_eq (k : Nat) (y m d h mi s : Int) : impl_StampOk.f (k + 1) y m d h mi s = some (decide (okp y m d h mi s)) :=
  (show impl_StampOk.f (k + 1) y m d h mi s = spec_StampOk.f (k + 1) y m d h mi s from rfl).trans (sok_eq k y m d h mi s)

theorem pure (a0 a1 a2 a3 a4 a5 : Int) : ∃ k, laws_FnExactStampOk.f k a0 a1 a2 a3 a4 a5 = some true := by
  refine ⟨2, ?_⟩
  unfold laws_FnExactStampOk.f laws_toStamp.f
  simp only [Option.bind_some]
  rw [sok_eq, iok_eq]
  simp

theorem own : ownKnob Try.prog.godebug = none := by kernel_rfl
theorem laidOut : laidOutB Try.prog = true := by kernel_rfl
theorem cells23 : Try.prog.cellsOf 23 = 6 := by kernel_rfl
theorem cells3 : Try.prog.cellsOf 3 = 1 := by kernel_rfl
/-- A stamp that reads as data is six whole numbers. -/
theorem open_stamp {H : Type} {enc : TypeId × Value → H} {w : World} {base : Nat} {spare : Nat → Bool} {held : Bool} {r : Reach} {b0 : Nat} {v : Value} {d : DataW H} {p : List MemPlace}
    (hv : Value.okWide Try.prog w r b0 23 v) (h : DataW.Trod enc Try.prog w base spare held 23 v d p) : ∃ a0 a1 a2 a3 a4 a5 : Int, v = .agg #[.int .i64 a0, .int .i64 a1, .int .i64 a2, .int .i64 a3, .int .i64 a4, .int .i64 a5] := by
  obtain ⟨cs, rfl, hsz⟩ := okWide_struct Try.underlying23 hv
  rw [cells23] at hsz
  obtain ⟨fuel, hf⟩ := h
  obtain ⟨xs, n, _, _, hl, hx, hg⟩ := DataW.trod_struct Try.underlying23 hf
  have one : ∀ (i : Nat) (f : Field), i < 6 → f.type = 3 → f.offset = i → DataW.trod enc Try.prog w base spare held n f.type (((Value.agg cs).cells.toList.drop f.offset).take (Try.prog.cellsOf f.type)) = xs[i]? → ∃ a : Int, cs[i]? = some (.int .i64 a) := by
    intro i f hi ht ho he
    have hlen : xs.length = 6 := hx
    rw [ht, ho, cells3, List.getElem?_eq_getElem (by omega)] at he
    obtain ⟨a, ha, _, _⟩ := DataW.trod_int Try.underlying3 he
    refine ⟨a, ?_⟩
    have hc : (Value.agg cs).cells.toList = cs.toList := by simp [Value.cells]
    rw [hc] at ha
    have h0 := congrArg (fun l => l[0]?) ha
    simpa using h0
  obtain ⟨a0, e0⟩ := one 0 _ (by omega) rfl rfl (hg 0 _ rfl)
  obtain ⟨a1, e1⟩ := one 1 _ (by omega) rfl rfl (hg 1 _ rfl)
  obtain ⟨a2, e2⟩ := one 2 _ (by omega) rfl rfl (hg 2 _ rfl)
  obtain ⟨a3, e3⟩ := one 3 _ (by omega) rfl rfl (hg 3 _ rfl)
  obtain ⟨a4, e4⟩ := one 4 _ (by omega) rfl rfl (hg 4 _ rfl)
  obtain ⟨a5, e5⟩ := one 5 _ (by omega) rfl rfl (hg 5 _ rfl)
  refine ⟨a0, a1, a2, a3, a4, a5, ?_⟩
  congr 1
  apply Array.ext_getElem?
  intro i
  match i with
  | 0 => simpa using e0
  | 1 => simpa using e1
  | 2 => simpa using e2
  | 3 => simpa using e3
  | 4 => simpa using e4
  | 5 => simpa using e5
  | i + 6 => rw [Array.getElem?_eq_none (by omega), Array.getElem?_eq_none (by simp)]
set_option maxRecDepth 100000 in
theorem lifted (os : Os) (started : os.Started) (H : Type) (enc : TypeId × Value → H) :
    ReturnsInHanded {} Try.checked os 3 .any (Rows.fnExactStampOkSpec.pre6 enc Try.prog Try.f3 Rows.fnExactStampOkRow.domain false) (Rows.fnExactStampOkSpec.post enc Try.prog Try.f3 false true false false) := by
  refine returnsInHanded_of_change_sized (C := Try.checked) own started (by kernel_rfl) Try.func3
    (ChangeSpec.witness6 (enc := enc) (C := Try.checked) false ⟨#[], #[.agg #[.int .i64 0, .int .i64 0, .int .i64 0, .int .i64 0, .int .i64 0, .int .i64 0]], []⟩ 8 (by kernel_rfl) (by kernel_rfl) (by kernel_rfl) (by kernel_rfl)) ?_
  intro W base args ds gs before hval0 hW hcnd hsz0 _
  have hval : ∀ (j : Nat) t v, Try.f3.params[j]? = some t → args[j]? = some v → Value.okWide Try.prog W .any base t v := hval0
  have hW' := hW
  obtain ⟨p, q, hA0, hV, rfl, hfz, hnd⟩ := hW
  have hA : DataW.TrodAll enc Try.prog W 0 (fun _ => true) true Try.f3.params.toList args.toList ds p := hA0
  rw [Try.params3] at hA hval
  obtain ⟨v0, vs0, d0, ds0, p0, q0, hargs, rfl, rfl, h0, r0⟩ := trodAll_cons hA
  obtain ⟨rfl, rfl, rfl⟩ := trodAll_nil r0
  obtain rfl : args = #[v0] := by cases args; simp_all
  obtain ⟨rfl, rfl⟩ := trodVars_none hV
  obtain ⟨a0, a1, a2, a3, a4, a5, rfl⟩ := open_stamp (hval 0 23 v0 rfl rfl) h0
  have k0 := h0
  have lt0 : ∀ x ∈ p0, x.block < W.heap.size := by obtain ⟨m, hm⟩ := k0; exact DataW.trod_lt m _ _ _ hm
  clear hA0 hval0 hsz0
  obtain ⟨k, hk⟩ := pure a0 a1 a2 a3 a4 a5
  refine (laws_FnExactStampOk.calls k a0 a1 a2 a3 a4 a5 true W hk).mono fun e W' ⟨he, bel⟩ => ?_
  subst he
  exact ⟨_, rfl, _, _, _, [], _, [], hW', trodAll_mk1 (shut_bool Try.underlying4 _), (trodAll_cons_mk (Below.trod laidOut (by kernel_rfl) (of_decide_eq_true (by kernel_rfl)) k0 bel lt0) trodAll_mk0), rfl, bel.frame _, fun h => by cases h⟩
theorem over : Rows.fnExactStampOkRow.holds Try.pinned (OpenSpec.ofChange Rows.fnExactStampOkSpec) :=
  OpenClaim.holds_of_wide 3 Try.f3 rfl rfl rfl rfl rfl rfl rfl ⟨rfl, rfl, rfl, rfl, rfl⟩ rfl rfl rfl rfl rfl (by kernel_rfl) Try.func3 (by kernel_rfl)
    (of_decide_eq_true (by kernel_rfl)) (by unfold Func.isWrapper; first | (rw [if_pos (by decide +kernel)]; kernel_rfl) | (rw [if_neg (by decide +kernel)]; exact ⟨rfl, rfl⟩))
    (fun os started H enc _ => lifted os started H enc)
theorem proved : Rows.FnExactStampOkSaid := over
#print axioms proved
end Go.Proofs.Ytmkhhpnagmkgeaa.fnExactStampOk
namespace Go.Proofs.Ytmkhhpnagmkgeaa
/-- The row, under a short name, for the claim. -/
theorem fnExactStampOk_holds : Rows.FnExactStampOkSaid := fnExactStampOk.proved
end Go.Proofs.Ytmkhhpnagmkgeaa
