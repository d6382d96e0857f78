/- The card of FnFlateBad: whatever the input, the law returns true and the input reads as before. No condition beyond the row's own. -/
import Derived.Test.YtncidljdfipigaaDoorZ0
import Derived.Test.YtncidljdfipigaaDoorZ1
import Derived.Test.YtncidljdfipigaaDoorZ2
import Derived.Test.YtncidljdfipigaaDoorZ3
import Derived.Test.YtncidljdfipigaaDoorZ4
import Derived.Test.YtncidljdfipigaaDoorZ5
import Derived.Test.YtncidljdfipigaaDoorZ6
import Derived.Test.YtncidljdfipigaaDoorZ7
import Derived.Test.YtncidljdfipigaaDoorZ8
import Derived.Test.YtncidljdfipigaaDoorZ9
import Derived.Test.YtncidljdfipigaaDoorZ10
import Derived.Test.YtncidljdfipigaaDoorZ11
import Derived.Test.YtncidljdfipigaaDoorZ12
import Derived.Test.YtncidljdfipigaaDoorCards
import Derived.Test.YtncidljdfipigaaDoorTie
import Derived.WalkKit
import Derived.ProofKit
import Derived.OpenShut
import Derived.ShutString
import Derived.ChangeOld
import Derived.OpenVars
import Derived.Lay
import Derived.Below
import Derived.SizedLaws
import Derived.Deep.DeepHandedRow
import Derived.Deep.DeepWitnessRowRef
namespace Go.Proofs.YtncidljdfipigaaDoor.fnFlateBad
open Go.ChangeShapes Go.WideShapes Go.ChangeAt Go.RowKit Go.Proofs.YtncidljdfipigaaDoor.Laid
open Go.ChangeMaps (open_string shut_string)
set_option linter.unusedVariables false
theorem and_mk {a b : Bool} (ha : a = true) (hb : b = true) : (a && b) = true := by rw [ha, hb]; rfl
theorem witness_row (os : Os) {H : Type} (enc : TypeId × Value → H) :
    (OpenSpec.ofChange Rows.fnFlateBadSpec).preRow enc Tryd.prog Tryd.f17 Rows.fnFlateBadRow.domain false Rows.fnFlateBadRow.laid ((laidWorld os).forCall (fun _ _ => 0) ⟨#[], #[.slice none 0 0], []⟩).memory #[.slice none 0 0] := by
  have hw : (DataW.whole enc Tryd.prog ((laidWorld os).forCall (fun _ _ => 0) ⟨#[], #[.slice none 0 0], []⟩).memory Tryd.f17.params.toList (OpenSpec.ofChange Rows.fnFlateBadSpec).vars false (#[.slice none 0 0] : Array Value).toList 8).map (fun x => (x.1, x.2.1)) =
      some ([.nil], [Rows.laid_loop_example_corbel_impl_order]) := by kernel_rfl
  obtain ⟨⟨x1, x2, x3⟩, hx, hx1⟩ := Option.map_eq_some_iff.1 hw
  simp only [Prod.mk.injEq] at hx1
  obtain ⟨rfl, rfl⟩ := hx1
  exact OpenSpec.preRow_of_cond 8 hx (by kernel_rfl) (fun k hk => by cases hk) (by kernel_rfl) (laid_met os _)
set_option maxRecDepth 100000 in
theorem lifted (os : Os) (started : os.Started) (H : Type) (enc : TypeId × Value → H) (F : Stop.Interp) :
    ReturnsInHanded {} Tryd.checked os 17 .any ((OpenSpec.ofChange Rows.fnFlateBadSpec).preRow enc Tryd.prog Tryd.f17 Rows.fnFlateBadRow.domain false Rows.fnFlateBadRow.laid) (((OpenSpec.ofChange Rows.fnFlateBadSpec).at F).post enc Tryd.prog Tryd.f17 false true false false) := by
  refine returnsInHanded_of_row (C := Tryd.checked) (s := OpenSpec.ofChange Rows.fnFlateBadSpec) own started (by kernel_rfl) Tryd.func17
    (witness_row_atRef (enc := enc) (C := Tryd.checked) false (laidWorld os) #[.slice none 0 0] (World.laidAll_os _ _ _) (by kernel_rfl) (by kernel_rfl) (by kernel_rfl) (witness_row os enc)) ?_
  intro W base args ds gs before hval0 hW hcnd _ hsz0 hL hshape _
  have hsz : (DataW.weightsEach Tryd.prog (Tryd.f17.params.toList ++ Rows.fnFlateBadSpec.plain.varTypes Tryd.prog) (ds ++ gs)).all (· ≤ reachBytes) = true := hsz0
  have hval : ∀ (j : Nat) t v, Tryd.f17.params[j]? = some t → args[j]? = some v → Value.okWide Tryd.prog W .any base t v := hval0
  have hF := Laid.facts hL
  have hW' := hW
  obtain ⟨p, q, hA0, hV, rfl, hfz, hnd⟩ := hW
  have hA : DataW.TrodAll enc Tryd.prog W 0 (fun _ => true) true Tryd.f17.params.toList args.toList ds p := hA0
  rw [Tryd.params17] at hA hval hsz
  obtain ⟨v0, vs0, d0, ds0, p0, q0, hargs, rfl, rfl, h0, r0⟩ := trodAll_cons hA
  obtain ⟨rfl, rfl, rfl⟩ := trodAll_nil r0
  obtain rfl : args = #[v0] := by cases args; simp_all
  have hV' : DataW.TrodVars enc Tryd.prog W (fun _ => true) ["loop.example/corbel/impl.order"] gs q := hV
  obtain ⟨g1, rfl⟩ : ∃ g1, gs = [g1] := by
    cases gs with
    | nil => exact hV'.elim
    | cons g1 r =>
      cases r with
      | nil => exact ⟨g1, rfl⟩
      | cons _ _ =>
        obtain ⟨_, _, _, _, _, _, _, _, _, _, h, _⟩ := hV'
        exact h.elim
  obtain ⟨a0, len0, cap0, rfl⟩ := okWide_slice Tryd.underlying22 (hval 0 22 v0 rfl rfl)
  have k0 := h0
  have lt0 : ∀ x ∈ p0, x.block < W.heap.size := by obtain ⟨m, hm⟩ := k0; exact DataW.trod_lt m _ _ _ hm
  obtain ⟨z0, w0⟩ : ∃ zs : List Int, (a0 = none ∧ len0 = 0 ∧ cap0 = 0 ∧ zs = []) ∨ ∃ x, a0 = some x ∧ len0 ≤ cap0 ∧ cap0 ≤ maxLen ∧ zs.length = cap0 ∧ (∀ j, j < zs.length → W.cell? (x.add j) = some (.int .u8 (zs.getD j 0))) ∧ ∀ m ∈ zs, (Lit.int .u8 m).wf = true := by
    obtain ⟨fuel, hf⟩ := h0
    rcases open_ints Tryd.underlying22 Tryd.underlying5 (by kernel_rfl) hf with ⟨hcs, _⟩ | ⟨x, l, c, zs, hcs, _, hl, hm, hz, _, hcell, hwz⟩
    · simp [Value.cells] at hcs
      obtain ⟨rfl, rfl, rfl⟩ := hcs
      exact ⟨[], .inl ⟨rfl, rfl, rfl, rfl⟩⟩
    · simp [Value.cells] at hcs
      obtain ⟨rfl, rfl, rfl⟩ := hcs
      exact ⟨zs, .inr ⟨_, rfl, hl, hm, by simpa using hz, hcell, hwz⟩⟩
  clear hA0 hval0 hsz0 hsz
  refine (Wi.law_bad a0 len0 cap0 z0 W hF w0).mono fun e W' ⟨he, bel0⟩ => ?_
  have bel := bel0.out
  subst he
  exact ⟨_, rfl, _, _, _, [], _, q, hW', trodAll_mk1 (shut_bool Tryd.underlying4 _), (trodAll_cons_mk (Below.trod laidOut (by kernel_rfl) (of_decide_eq_true (by kernel_rfl)) k0 bel lt0) trodAll_mk0), Below.trodVars laidOut bel (by kernel_rfl) hV', bel.frame _, fun h => by cases h⟩
theorem k1 : Rows.fnFlateBadRow.wf (OpenSpec.ofChange Rows.fnFlateBadSpec) = true := by kernel_rfl
theorem k2 : laidOutB Tryd.prog = true := by kernel_rfl
theorem k3 : mapsRowed Tryd.prog = true := by kernel_rfl
theorem k4 : Tryd.f17.params.all (Tryd.prog.readableRec ·) = true := by kernel_rfl
theorem k5 : namedTie Tryd.prog Rows.fnFlateBadRow.named Rows.fnFlateBadSpec.vars = true := by kernel_rfl
theorem k6 : (Rows.fnFlateBadRow.stops == []) = true := by kernel_rfl
theorem k7 : (Tryd.prog.stops == []) = true := by kernel_rfl
theorem k8 : (Rows.fnFlateBadRow.knobs == []) = true := by kernel_rfl
theorem k9 : (Tryd.prog.stopKnobs == []) = true := by kernel_rfl
theorem k10 : (Rows.fnFlateBadRow.inPlace == Tryd.prog.inPlace 17) = true := by kernel_rfl
theorem k11 : (Rows.fnFlateBadRow.unfollowed == Tryd.prog.unfollowed 17) = true := by kernel_rfl
theorem k12 : (Rows.fnFlateBadRow.recurses == Tryd.prog.recurses 17) = true := by kernel_rfl
theorem k13 : (Rows.fnFlateBadRow.named == Tryd.prog.varsNamed 17) = true := by kernel_rfl
theorem k14 : (Rows.fnFlateBadRow.maps == (Tryd.f17.params.toList ++ Rows.fnFlateBadSpec.plain.varTypes Tryd.prog).any (Tryd.prog.mapsRec ·)) = true := by kernel_rfl
theorem k15 : (Rows.fnFlateBadRow.ifaces == (Tryd.f17.params.toList ++ Rows.fnFlateBadSpec.plain.varTypes Tryd.prog).any (Tryd.prog.ifacesRec ·)) = true := by kernel_rfl
theorem k16 : (Rows.fnFlateBadRow.mapsOut == Tryd.prog.mapsAmong Tryd.f17.resultTypes.toList) = true := by kernel_rfl
theorem k17 : (Rows.fnFlateBadRow.loops == (Tryd.f17.params.toList ++ Rows.fnFlateBadSpec.plain.varTypes Tryd.prog).any (Tryd.prog.loopsFrom ·)) = true := by kernel_rfl
theorem k18 : (Rows.fnFlateBadRow.wideKeys == (Tryd.f17.params.toList ++ Rows.fnFlateBadSpec.plain.varTypes Tryd.prog ++ Tryd.f17.resultTypes.toList).any (Tryd.prog.wideKeysFrom ·)) = true := by kernel_rfl
theorem k19 : Rows.fnFlateBadSpec.vars.all (Tryd.prog.varReadable ·) = true := by kernel_rfl
theorem k20 : Tryd.f17.resultTypes.all (fun t => Tryd.prog.readableRec t && decide (t < Tryd.prog.types.size)) = true := by kernel_rfl
theorem k21 : (Rows.fnFlateBadRow.ifacesOut == Tryd.f17.resultTypes.toList.any (Tryd.prog.ifacesRec ·)) = true := by kernel_rfl
theorem k22 : (Rows.fnFlateBadRow.loopsOut == Tryd.f17.resultTypes.toList.any (Tryd.prog.loopsFrom ·)) = true := by kernel_rfl
theorem k23 : (Rows.fnFlateBadRow.plainKeys == Tryd.prog.plainKeys) = true := by kernel_rfl
theorem k24 : Rows.fnFlateBadRow.shortTexts.isNone = true := by kernel_rfl
theorem k25 : Tryd.prog.stopsHeard = true := Clo.heard
theorem k26 : Tryd.prog.mayEnter = true := Clo.enter
theorem k27 : (Rows.fnFlateBadRow.lifted == Tryd.prog.liftsFinal) = true := by rw [Clo.finals]; kernel_rfl
theorem k28 : (Tryd.prog.make == some Rows.fnFlateBadRow.make) = true := by rw [Clo.made]; kernel_rfl
theorem k30 : (Rows.fnFlateBadRow.pinned == Rows.fnFlateBadRow.pinnedBy) = true := by kernel_rfl
theorem k31 : (Rows.fnFlateBadRow.veiled == (Tryd.f17.params.toList ++ Rows.fnFlateBadSpec.plain.varTypes Tryd.prog ++ Tryd.f17.resultTypes.toList).any (Tryd.prog.veiledRec ·)) = true := by kernel_rfl
theorem k32 : Rows.fnFlateBadRow.veiledFits Tryd.prog Tryd.f17.params.toList (Tryd.f17.params.toList ++ Rows.fnFlateBadSpec.plain.varTypes Tryd.prog ++ Tryd.f17.resultTypes.toList) = true := by kernel_rfl
set_option maxRecDepth 100000 in
theorem closed : joinedFacts Tryd.prog 17 Tryd.f17 Rows.fnFlateBadSpec Rows.fnFlateBadRow = true := by
  unfold joinedFacts
  with_reducible exact and_mk (and_mk (and_mk (and_mk (and_mk (and_mk (and_mk (and_mk (and_mk (and_mk (and_mk (and_mk (and_mk (and_mk (and_mk (and_mk (and_mk (and_mk (and_mk (and_mk (and_mk (and_mk (and_mk (and_mk (and_mk (and_mk (and_mk (and_mk (and_mk (and_mk (and_mk k1 k2) k3) k4) k5) k6) k7) k8) k9) k10) k11) k12) k13) k14) k15) k16) k17) k18) k19) k20) k21) k22) k23) k24) k25) k26) k27) k28) (by kernel_rfl)) k30) k31) k32
theorem said : Rows.FnFlateBadSaid :=
  OpenClaim.holds_of_cond 17 Tryd.f17 rfl rfl rfl rfl rfl rfl rfl ⟨rfl, rfl, rfl, rfl, rfl⟩ rfl rfl rfl rfl rfl (by kernel_rfl) Tryd.func17 ((show joinedFacts Tryd.pinned.checked.prog 17 Tryd.f17 (OpenSpec.ofChange Rows.fnFlateBadSpec).bare Rows.fnFlateBadRow = joinedFacts Tryd.prog 17 Tryd.f17 Rows.fnFlateBadSpec Rows.fnFlateBadRow by kernel_rfl).trans closed)
    (of_decide_eq_true (by kernel_rfl)) (by unfold Func.isWrapper; first | (rw [if_pos (by decide +kernel)]; kernel_rfl) | (rw [if_neg (by decide +kernel)]; exact ⟨rfl, rfl⟩))
    (fun os started H enc _ F => by rw [OpenClaim.pre_eq_preRow]; exact lifted os started H enc F)
theorem plain (f : FuncId) (fn : Func) (hf : Tryd.pinned.checked.prog.funcNamed "loop.example/corbel/laws.FnFlateBad" = some f) (hfn : Tryd.pinned.checked.prog.funcs[f]? = some fn) :
    false = Tryd.pinned.checked.prog.looks [] ∧ ∀ (j : Nat) t, fn.params[j]? = some t → Tryd.pinned.checked.prog.wantsStandIn t = false := by
  obtain rfl : f = 17 := Option.some.inj ((show Tryd.prog.funcNamed "loop.example/corbel/laws.FnFlateBad" = some 17 by kernel_rfl).symm.trans hf) |>.symm
  obtain rfl : fn = Tryd.f17 := (Option.some.inj (Tryd.func17.symm.trans hfn)).symm
  refine ⟨by kernel_rfl, fun j t ht => ?_⟩
  rw [Tryd.params17] at ht
  obtain rfl : t = 22 := by simpa using Array.mem_of_getElem? ht
  exact (show Tryd.prog.wantsStandIn 22 = false by kernel_rfl)
theorem card : Rows.FnFlateBadCardSaid :=
  Claim7.holds_tied_plain_at .later [] _ _ _ _ said (fun _ h => by cases h) (by kernel_rfl) (fun _ h => by cases h) fnFlateBad_row_tie rfl ⟨rfl, rfl⟩ Clo.main rfl plain (by kernel_rfl)
#print axioms card
end Go.Proofs.YtncidljdfipigaaDoor.fnFlateBad
namespace Go.Proofs.YtncidljdfipigaaDoor
/-- The card, under a short name, for the claim. -/
theorem fnFlateBad_holds : Rows.FnFlateBadCardSaid := fnFlateBad.card
end Go.Proofs.YtncidljdfipigaaDoor
