/- The card of FnExactLocalGet: whatever the input, the law returns true and the input reads as before. No condition beyond the row's own. -/
import Derived.Test.YtncidljdfipigaaDoorZ14
import Derived.Test.YtncidljdfipigaaDoorZ16
import Derived.Test.YtncidljdfipigaaDoorCards
import Derived.Test.YtncidljdfipigaaDoorTie
import Derived.Test.YtncidljdfipigaaDoorClo
import Derived.WalkKit
import Derived.ProofKit
import Derived.OpenShut
import Derived.ShutString
import Derived.ChangeOld
import Derived.OpenVars
import Derived.Lay
import Derived.Below
import Derived.SizedLaws
import Derived.Deep.DeepHandedRow
import Derived.Deep.DeepWitnessRowRef
namespace Go.Proofs.YtncidljdfipigaaDoor.fnExactLocalGet
open Go.ChangeShapes Go.WideShapes Go.ChangeAt Go.RowKit Go.Proofs.YtncidljdfipigaaDoor.Laid
open Go.ChangeMaps (open_string shut_string)
set_option linter.unusedVariables false
theorem and_mk {a b : Bool} (ha : a = true) (hb : b = true) : (a && b) = true := by rw [ha, hb]; rfl
theorem witness_row (os : Os) {H : Type} (enc : TypeId × Value → H) :
    (OpenSpec.ofChange Rows.fnExactLocalGetSpec).preRow enc Tryd.prog Tryd.f19 Rows.fnExactLocalGetRow.domain false Rows.fnExactLocalGetRow.laid ((laidWorld3 os).forCall (fun _ _ => 0) ⟨#[], #[.string ⟨#[]⟩], []⟩).memory #[.string ⟨#[]⟩] := by
  have hw : (DataW.whole enc Tryd.prog ((laidWorld3 os).forCall (fun _ _ => 0) ⟨#[], #[.string ⟨#[]⟩], []⟩).memory Tryd.f19.params.toList (OpenSpec.ofChange Rows.fnExactLocalGetSpec).vars false (#[.string ⟨#[]⟩] : Array Value).toList 8).map (fun x => (x.1, x.2.1)) =
      some ([.lit (.string [])], [Rows.laid_loop_example_corbel_impl_order]) := by kernel_rfl
  obtain ⟨⟨x1, x2, x3⟩, hx, hx1⟩ := Option.map_eq_some_iff.1 hw
  simp only [Prod.mk.injEq] at hx1
  obtain ⟨rfl, rfl⟩ := hx1
  exact OpenSpec.preRow_of_cond 8 hx (by kernel_rfl) (fun k hk => by cases hk) (by kernel_rfl) (laid_met3 os _)
set_option maxRecDepth 100000 in
theorem lifted (os : Os) (started : os.Started) (H : Type) (enc : TypeId × Value → H) (F : Stop.Interp) :
    ReturnsInHanded {} Tryd.checked os 19 .any ((OpenSpec.ofChange Rows.fnExactLocalGetSpec).preRow enc Tryd.prog Tryd.f19 Rows.fnExactLocalGetRow.domain false Rows.fnExactLocalGetRow.laid) (((OpenSpec.ofChange Rows.fnExactLocalGetSpec).at F).post enc Tryd.prog Tryd.f19 false true false false) := by
  refine returnsInHanded_of_row (C := Tryd.checked) (s := OpenSpec.ofChange Rows.fnExactLocalGetSpec) own started (by kernel_rfl) Tryd.func19
    (witness_row_atRef (enc := enc) (C := Tryd.checked) false (laidWorld3 os) #[.string ⟨#[]⟩] (World.laidAll_os _ _ _) (by kernel_rfl) (by kernel_rfl) (by kernel_rfl) (witness_row os enc)) ?_
  intro W base args ds gs before hval0 hW hcnd _ hsz0 hL hshape _
  have hsz : (DataW.weightsEach Tryd.prog (Tryd.f19.params.toList ++ Rows.fnExactLocalGetSpec.plain.varTypes Tryd.prog) (ds ++ gs)).all (· ≤ reachBytes) = true := hsz0
  have hval : ∀ (j : Nat) t v, Tryd.f19.params[j]? = some t → args[j]? = some v → Value.okWide Tryd.prog W .any base t v := hval0
  have hF := Laid.facts3 hL hshape
  have hW' := hW
  obtain ⟨p, q, hA0, hV, rfl, hfz, hnd⟩ := hW
  have hA : DataW.TrodAll enc Tryd.prog W 0 (fun _ => true) true Tryd.f19.params.toList args.toList ds p := hA0
  rw [Tryd.params19] at hA hval hsz
  obtain ⟨v0, vs0, d0, ds0, p0, q0, hargs, rfl, rfl, h0, r0⟩ := trodAll_cons hA
  obtain ⟨rfl, rfl, rfl⟩ := trodAll_nil r0
  obtain rfl : args = #[v0] := by cases args; simp_all
  have hV' : DataW.TrodVars enc Tryd.prog W (fun _ => true) ["loop.example/corbel/impl.order"] gs q := hV
  obtain ⟨g1, rfl⟩ : ∃ g1, gs = [g1] := by
    cases gs with
    | nil => exact hV'.elim
    | cons g1 r =>
      cases r with
      | nil => exact ⟨g1, rfl⟩
      | cons _ _ =>
        obtain ⟨_, _, _, _, _, _, _, _, _, _, h, _⟩ := hV'
        exact h.elim
  obtain ⟨a0, rfl, rfl, rfl, y0⟩ := open_string Tryd.underlying9 (hval 0 9 v0 rfl rfl) h0
  have w0 : a0.size ≤ 140737488351232 := by
    have z := sized_string hsz (j := 0) (t := 9) rfl rfl
    rw [Array.length_toList] at z
    exact z
  clear hA0 hval0 hsz0 hsz
  refine (Lc.law_localget a0 W hF w0).mono fun e W' ⟨he, bel0⟩ => ?_
  have bel := bel0.out
  subst he
  exact ⟨_, rfl, _, _, _, [], _, q, hW', trodAll_mk1 (shut_bool Tryd.underlying4 _), (trodAll_cons_mk (shut_string Tryd.underlying9 y0) trodAll_mk0), Below.trodVars laidOut bel (by kernel_rfl) hV', bel.frame _, fun h => by cases h⟩
theorem k1 : Rows.fnExactLocalGetRow.wf (OpenSpec.ofChange Rows.fnExactLocalGetSpec) = true := by kernel_rfl
theorem k2 : laidOutB Tryd.prog = true := by kernel_rfl
theorem k3 : mapsRowed Tryd.prog = true := by kernel_rfl
theorem k4 : Tryd.f19.params.all (Tryd.prog.readableRec ·) = true := by kernel_rfl
theorem k5 : namedTie Tryd.prog Rows.fnExactLocalGetRow.named Rows.fnExactLocalGetSpec.vars = true := by kernel_rfl
theorem k6 : (Rows.fnExactLocalGetRow.stops == []) = true := by kernel_rfl
theorem k7 : (Tryd.prog.stops == []) = true := by kernel_rfl
theorem k8 : (Rows.fnExactLocalGetRow.knobs == []) = true := by kernel_rfl
theorem k9 : (Tryd.prog.stopKnobs == []) = true := by kernel_rfl
theorem k10 : (Rows.fnExactLocalGetRow.inPlace == Tryd.prog.inPlace 19) = true := by kernel_rfl
theorem k11 : (Rows.fnExactLocalGetRow.unfollowed == Tryd.prog.unfollowed 19) = true := by kernel_rfl
theorem k12 : (Rows.fnExactLocalGetRow.recurses == Tryd.prog.recurses 19) = true := by kernel_rfl
theorem k13 : (Rows.fnExactLocalGetRow.named == Tryd.prog.varsNamed 19) = true := by kernel_rfl
theorem k14 : (Rows.fnExactLocalGetRow.maps == (Tryd.f19.params.toList ++ Rows.fnExactLocalGetSpec.plain.varTypes Tryd.prog).any (Tryd.prog.mapsRec ·)) = true := by kernel_rfl
theorem k15 : (Rows.fnExactLocalGetRow.ifaces == (Tryd.f19.params.toList ++ Rows.fnExactLocalGetSpec.plain.varTypes Tryd.prog).any (Tryd.prog.ifacesRec ·)) = true := by kernel_rfl
theorem k16 : (Rows.fnExactLocalGetRow.mapsOut == Tryd.prog.mapsAmong Tryd.f19.resultTypes.toList) = true := by kernel_rfl
theorem k17 : (Rows.fnExactLocalGetRow.loops == (Tryd.f19.params.toList ++ Rows.fnExactLocalGetSpec.plain.varTypes Tryd.prog).any (Tryd.prog.loopsFrom ·)) = true := by kernel_rfl
theorem k18 : (Rows.fnExactLocalGetRow.wideKeys == (Tryd.f19.params.toList ++ Rows.fnExactLocalGetSpec.plain.varTypes Tryd.prog ++ Tryd.f19.resultTypes.toList).any (Tryd.prog.wideKeysFrom ·)) = true := by kernel_rfl
theorem k19 : Rows.fnExactLocalGetSpec.vars.all (Tryd.prog.varReadable ·) = true := by kernel_rfl
theorem k20 : Tryd.f19.resultTypes.all (fun t => Tryd.prog.readableRec t && decide (t < Tryd.prog.types.size)) = true := by kernel_rfl
theorem k21 : (Rows.fnExactLocalGetRow.ifacesOut == Tryd.f19.resultTypes.toList.any (Tryd.prog.ifacesRec ·)) = true := by kernel_rfl
theorem k22 : (Rows.fnExactLocalGetRow.loopsOut == Tryd.f19.resultTypes.toList.any (Tryd.prog.loopsFrom ·)) = true := by kernel_rfl
theorem k23 : (Rows.fnExactLocalGetRow.plainKeys == Tryd.prog.plainKeys) = true := by kernel_rfl
theorem k24 : Rows.fnExactLocalGetRow.shortTexts.isNone = true := by kernel_rfl
theorem k25 : Tryd.prog.stopsHeard = true := Clo.heard
theorem k26 : Tryd.prog.mayEnter = true := Clo.enter
theorem k27 : (Rows.fnExactLocalGetRow.lifted == Tryd.prog.liftsFinal) = true := by rw [Clo.finals]; kernel_rfl
theorem k28 : (Tryd.prog.make == some Rows.fnExactLocalGetRow.make) = true := by rw [Clo.made]; kernel_rfl
theorem k30 : (Rows.fnExactLocalGetRow.pinned == Rows.fnExactLocalGetRow.pinnedBy) = true := by kernel_rfl
theorem k31 : (Rows.fnExactLocalGetRow.veiled == (Tryd.f19.params.toList ++ Rows.fnExactLocalGetSpec.plain.varTypes Tryd.prog ++ Tryd.f19.resultTypes.toList).any (Tryd.prog.veiledRec ·)) = true := by kernel_rfl
theorem k32 : Rows.fnExactLocalGetRow.veiledFits Tryd.prog Tryd.f19.params.toList (Tryd.f19.params.toList ++ Rows.fnExactLocalGetSpec.plain.varTypes Tryd.prog ++ Tryd.f19.resultTypes.toList) = true := by kernel_rfl
set_option maxRecDepth 100000 in
theorem closed : joinedFacts Tryd.prog 19 Tryd.f19 Rows.fnExactLocalGetSpec Rows.fnExactLocalGetRow = true := by
  unfold joinedFacts
  with_reducible exact and_mk (and_mk (and_mk (and_mk (and_mk (and_mk (and_mk (and_mk (and_mk (and_mk (and_mk (and_mk (and_mk (and_mk (and_mk (and_mk (and_mk (and_mk (and_mk (and_mk (and_mk (and_mk (and_mk (and_mk (and_mk (and_mk (and_mk (and_mk (and_mk (and_mk (and_mk k1 k2) k3) k4) k5) k6) k7) k8) k9) k10) k11) k12) k13) k14) k15) k16) k17) k18) k19) k20) k21) k22) k23) k24) k25) k26) k27) k28) (by kernel_rfl)) k30) k31) k32
theorem said : Rows.FnExactLocalGetSaid :=
  OpenClaim.holds_of_cond 19 Tryd.f19 rfl rfl rfl rfl rfl rfl rfl ⟨rfl, rfl, rfl, rfl, rfl⟩ rfl rfl rfl rfl rfl (by kernel_rfl) Tryd.func19 ((show joinedFacts Tryd.pinned.checked.prog 19 Tryd.f19 (OpenSpec.ofChange Rows.fnExactLocalGetSpec).bare Rows.fnExactLocalGetRow = joinedFacts Tryd.prog 19 Tryd.f19 Rows.fnExactLocalGetSpec Rows.fnExactLocalGetRow by kernel_rfl).trans closed)
    (of_decide_eq_true (by kernel_rfl)) (by unfold Func.isWrapper; first | (rw [if_pos (by decide +kernel)]; kernel_rfl) | (rw [if_neg (by decide +kernel)]; exact ⟨rfl, rfl⟩))
    (fun os started H enc _ F => by rw [OpenClaim.pre_eq_preRow]; exact lifted os started H enc F)
theorem plain (f : FuncId) (fn : Func) (hf : Tryd.pinned.checked.prog.funcNamed "loop.example/corbel/laws.FnExactLocalGet" = some f) (hfn : Tryd.pinned.checked.prog.funcs[f]? = some fn) :
    false = Tryd.pinned.checked.prog.looks [] ∧ ∀ (j : Nat) t, fn.params[j]? = some t → Tryd.pinned.checked.prog.wantsStandIn t = false := by
  obtain rfl : f = 19 := Option.some.inj ((show Tryd.prog.funcNamed "loop.example/corbel/laws.FnExactLocalGet" = some 19 by kernel_rfl).symm.trans hf) |>.symm
  obtain rfl : fn = Tryd.f19 := (Option.some.inj (Tryd.func19.symm.trans hfn)).symm
  refine ⟨by kernel_rfl, fun j t ht => ?_⟩
  rw [Tryd.params19] at ht
  obtain rfl : t = 9 := by simpa using Array.mem_of_getElem? ht
  exact (show Tryd.prog.wantsStandIn 9 = false by kernel_rfl)
theorem card : Rows.FnExactLocalGetCardSaid :=
  Claim7.holds_tied_plain_at .later [] _ _ _ _ said (fun _ h => by cases h) (by kernel_rfl) (fun _ h => by cases h) fnExactLocalGet_row_tie rfl ⟨rfl, rfl⟩ Clo.main rfl plain (by kernel_rfl)
#print axioms card
end Go.Proofs.YtncidljdfipigaaDoor.fnExactLocalGet
namespace Go.Proofs.YtncidljdfipigaaDoor
/-- The card, under a short name, for the claim. -/
theorem fnExactLocalGet_holds : Rows.FnExactLocalGetCardSaid := fnExactLocalGet.card
end Go.Proofs.YtncidljdfipigaaDoor
