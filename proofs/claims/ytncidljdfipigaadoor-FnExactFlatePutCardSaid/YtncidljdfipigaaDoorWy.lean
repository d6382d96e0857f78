/- A region that draws its order: what holds of all later worlds may be made stronger. Nothing of the program stands here. -/
import Derived.Deep.RegionHeld3
import Derived.WalkKit
import Derived.Test.YtncidljdfipigaaDoorWr
namespace Go.Proofs.YtncidljdfipigaaDoor.Wi
open Go.RowKit
set_option linter.unusedVariables false
set_option linter.unusedSimpArgs false
theorem wpAnyH_strong {P : Program} {md : Region.Mode} {ops : Array Oper} {Q : Exit → Act → World → Prop} {S S' : World → Prop} (h : ∀ w, S' w → S w) : ∀ {fuel : Nat} {listed : Array Bool} {a : Act} {w : World}, wpAnyH P md ops Q S' fuel listed a w → wpAnyH P md ops Q S fuel listed a w := by
  intro fuel
  induction fuel with
  | zero => intro _ _ _ H; exact H
  | succ f ih => intro listed a w H; exact ⟨H.1, fun i hi => wpOp_mono (fun a' w' h' => ⟨h _ h'.1, ih h'.2⟩) (H.2 i hi)⟩
end Go.Proofs.YtncidljdfipigaaDoor.Wi
