/-
  No cell of these rows narrows 'for every input' (looked for: loops, veiled, ifaces, maps, wideKeys, modest, calm, conditions, laid).
  DERIVED. THE GIVEN ROWS OF THIS SEAT. 7 by the template 'for every input the law returns true; each argument reads behind the call as it read before'; 0 by the template 'total and deterministic' (their statements: YtmkhhpnagmkgeaaTotals.lean).
  GIVEN WITH THE SEED: the statements are not yours to turn. If you find one false, say at which input.
  Laid BY PROGRAM, IN A SANDBOX (cutbox-rows.mjs): the forced cells as the released guide's own fill.sh prints them over the translation 4527280d33bf7aed… (all of the seat's roots in one cut). By AI agents, Wed Nov 11 2026. No macro, syntax, notation, axiom, sorry.
-/
import Derived.Test.YtmkhhpnagmkgeaaChecked
import GoSem.Claim
import GoSem.ClaimJoined
import GoSem.ClaimMapViews
import Derived.JoinedTies
import Derived.KernelRfl
namespace Go.Proofs.Ytmkhhpnagmkgeaa
/- THE CELL 'sum', in the pinned program and in every row, IS THE sha256 OF THE DUMP (.gsa) THAT YtmkhhpnagmkgeaaProg.lean LOADS. Nothing in Lean hashes anything: it is a label: what it is worth is what the hold of that sum in a sandbox is worth. -/
noncomputable def Try.pinned : Pinned := { name := "ytmkhhpnagmkgeaa", sum := "4527280d33bf7aeda1439bc9e5059b62f5908c8fb015eaee8c6ab100cf532d1d", checked := Try.checked }
namespace Rows
def none {H : Type} : Left H := { results := [], args := [] }

/-- 'laws.FnExactStampOk': WHATEVER THE INPUT: true; the input reads as it did. -/
def fnExactStampOkSpec : ChangeSpec := { name := "fnExactStampOk", fn := fun _ => fun
  | [d] => { results := [.lit (.bool true)], args := [d] }
  | _ => none }
def fnExactStampOkRow : OpenClaim := { program := "ytmkhhpnagmkgeaa", sum := "4527280d33bf7aeda1439bc9e5059b62f5908c8fb015eaee8c6ab100cf532d1d", func := "loop.example/corbel/laws.FnExactStampOk", spec := "fnExactStampOk", apart := false }
def FnExactStampOkSaid : Prop := fnExactStampOkRow.holds Try.pinned (OpenSpec.ofChange fnExactStampOkSpec)

/-- ITS FALSE NEIGHBOUR: 'it returns false'. Refute it at one input. -/
def fnExactStampOkWrong : ChangeSpec := { name := "fnExactStampOk", fn := fun _ => fun
  | [d] => { results := [.lit (.bool false)], args := [d] }
  | _ => none }
def FnExactStampOkWrongFalsely : Prop := fnExactStampOkRow.holds Try.pinned (OpenSpec.ofChange fnExactStampOkWrong)

/-- 'laws.FnExactStampPut': WHATEVER THE INPUT: true; the input reads as it did. -/
def fnExactStampPutSpec : ChangeSpec := { name := "fnExactStampPut", fn := fun _ => fun
  | [d] => { results := [.lit (.bool true)], args := [d] }
  | _ => none }
def fnExactStampPutRow : OpenClaim := { program := "ytmkhhpnagmkgeaa", sum := "4527280d33bf7aeda1439bc9e5059b62f5908c8fb015eaee8c6ab100cf532d1d", func := "loop.example/corbel/laws.FnExactStampPut", spec := "fnExactStampPut", apart := false }
def FnExactStampPutSaid : Prop := fnExactStampPutRow.holds Try.pinned (OpenSpec.ofChange fnExactStampPutSpec)

/-- ITS FALSE NEIGHBOUR: 'it returns false'. Refute it at one input. -/
def fnExactStampPutWrong : ChangeSpec := { name := "fnExactStampPut", fn := fun _ => fun
  | [d] => { results := [.lit (.bool false)], args := [d] }
  | _ => none }
def FnExactStampPutWrongFalsely : Prop := fnExactStampPutRow.holds Try.pinned (OpenSpec.ofChange fnExactStampPutWrong)

/-- 'laws.FnStampDays': WHATEVER THE INPUT: true; the input reads as it did. -/
def fnStampDaysSpec : ChangeSpec := { name := "fnStampDays", fn := fun _ => fun
  | [d] => { results := [.lit (.bool true)], args := [d] }
  | _ => none }
def fnStampDaysRow : OpenClaim := { program := "ytmkhhpnagmkgeaa", sum := "4527280d33bf7aeda1439bc9e5059b62f5908c8fb015eaee8c6ab100cf532d1d", func := "loop.example/corbel/laws.FnStampDays", spec := "fnStampDays", apart := false }
def FnStampDaysSaid : Prop := fnStampDaysRow.holds Try.pinned (OpenSpec.ofChange fnStampDaysSpec)

/-- ITS FALSE NEIGHBOUR: 'it returns false'. Refute it at one input. -/
def fnStampDaysWrong : ChangeSpec := { name := "fnStampDays", fn := fun _ => fun
  | [d] => { results := [.lit (.bool false)], args := [d] }
  | _ => none }
def FnStampDaysWrongFalsely : Prop := fnStampDaysRow.holds Try.pinned (OpenSpec.ofChange fnStampDaysWrong)

/-- 'laws.FnStampLast': WHATEVER THE INPUT: true; the input reads as it did. -/
def fnStampLastSpec : ChangeSpec := { name := "fnStampLast", fn := fun _ => fun
  | [d] => { results := [.lit (.bool true)], args := [d] }
  | _ => none }
def fnStampLastRow : OpenClaim := { program := "ytmkhhpnagmkgeaa", sum := "4527280d33bf7aeda1439bc9e5059b62f5908c8fb015eaee8c6ab100cf532d1d", func := "loop.example/corbel/laws.FnStampLast", spec := "fnStampLast", apart := false }
def FnStampLastSaid : Prop := fnStampLastRow.holds Try.pinned (OpenSpec.ofChange fnStampLastSpec)

/-- ITS FALSE NEIGHBOUR: 'it returns false'. Refute it at one input. -/
def fnStampLastWrong : ChangeSpec := { name := "fnStampLast", fn := fun _ => fun
  | [d] => { results := [.lit (.bool false)], args := [d] }
  | _ => none }
def FnStampLastWrongFalsely : Prop := fnStampLastRow.holds Try.pinned (OpenSpec.ofChange fnStampLastWrong)

/-- 'laws.FnStampOrder': WHATEVER THE INPUT: true; the input reads as it did. -/
def fnStampOrderSpec : ChangeSpec := { name := "fnStampOrder", fn := fun _ => fun
  | [d1, d2] => { results := [.lit (.bool true)], args := [d1, d2] }
  | _ => none }
def fnStampOrderRow : OpenClaim := { program := "ytmkhhpnagmkgeaa", sum := "4527280d33bf7aeda1439bc9e5059b62f5908c8fb015eaee8c6ab100cf532d1d", func := "loop.example/corbel/laws.FnStampOrder", spec := "fnStampOrder", apart := false }
def FnStampOrderSaid : Prop := fnStampOrderRow.holds Try.pinned (OpenSpec.ofChange fnStampOrderSpec)

/-- ITS FALSE NEIGHBOUR: 'it returns false'. Refute it at one input. -/
def fnStampOrderWrong : ChangeSpec := { name := "fnStampOrder", fn := fun _ => fun
  | [d1, d2] => { results := [.lit (.bool false)], args := [d1, d2] }
  | _ => none }
def FnStampOrderWrongFalsely : Prop := fnStampOrderRow.holds Try.pinned (OpenSpec.ofChange fnStampOrderWrong)

/-- 'laws.FnExactStampGet': WHATEVER THE INPUT: true; the input reads as it did. -/
def fnExactStampGetSpec : ChangeSpec := { name := "fnExactStampGet", fn := fun _ => fun
  | [d] => { results := [.lit (.bool true)], args := [d] }
  | _ => none }
def fnExactStampGetRow : OpenClaim := { program := "ytmkhhpnagmkgeaa", sum := "4527280d33bf7aeda1439bc9e5059b62f5908c8fb015eaee8c6ab100cf532d1d", func := "loop.example/corbel/laws.FnExactStampGet", spec := "fnExactStampGet", apart := false }
def FnExactStampGetSaid : Prop := fnExactStampGetRow.holds Try.pinned (OpenSpec.ofChange fnExactStampGetSpec)

/-- ITS FALSE NEIGHBOUR: 'it returns false'. Refute it at one input. -/
def fnExactStampGetWrong : ChangeSpec := { name := "fnExactStampGet", fn := fun _ => fun
  | [d] => { results := [.lit (.bool false)], args := [d] }
  | _ => none }
def FnExactStampGetWrongFalsely : Prop := fnExactStampGetRow.holds Try.pinned (OpenSpec.ofChange fnExactStampGetWrong)

/-- 'laws.FnStamp': WHATEVER THE INPUT: true; the input reads as it did. -/
def fnStampSpec : ChangeSpec := { name := "fnStamp", fn := fun _ => fun
  | [d1, d2] => { results := [.lit (.bool true)], args := [d1, d2] }
  | _ => none }
def fnStampRow : OpenClaim := { program := "ytmkhhpnagmkgeaa", sum := "4527280d33bf7aeda1439bc9e5059b62f5908c8fb015eaee8c6ab100cf532d1d", func := "loop.example/corbel/laws.FnStamp", spec := "fnStamp", apart := false }
def FnStampSaid : Prop := fnStampRow.holds Try.pinned (OpenSpec.ofChange fnStampSpec)

/-- ITS FALSE NEIGHBOUR: 'it returns false'. Refute it at one input. -/
def fnStampWrong : ChangeSpec := { name := "fnStamp", fn := fun _ => fun
  | [d1, d2] => { results := [.lit (.bool false)], args := [d1, d2] }
  | _ => none }
def FnStampWrongFalsely : Prop := fnStampRow.holds Try.pinned (OpenSpec.ofChange fnStampWrong)

/- THE SECOND FORM. 'bulk': how many values and letters a reading holds, each counted each time it is reached (what is shared counts as often as it is met; a slice's spare places count too). A statement '..UptoSaid' is the law's where the arguments, and the package variables that the reading takes, are together of bulk at most 1048576: NARROWER than '..Said'. Prove '..Said' where nothing that the law and all that it calls make is longer than what came in: it says more and counts as full. Else prove '..UptoSaid'. A law counts once. -/
mutual
def uptoBulk {H : Type} : DataW H → Nat
  | .lit (.string bytes) => bytes.length + 1
  | .lit _ => 1
  | .nil => 1
  | .ptr d => uptoBulk d + 1
  | .slice elems spare => uptoBulkAll elems + uptoBulkAll spare + 1
  | .agg parts => uptoBulkAll parts + 1
  | .iface _ d => uptoBulk d + 1
  | .map entries => uptoBulkEntries entries + 1
  | .held _ => 1
def uptoBulkAll {H : Type} : List (DataW H) → Nat
  | [] => 0
  | d :: r => uptoBulk d + uptoBulkAll r
def uptoBulkEntries {H : Type} : List (Lit × DataW H) → Nat
  | [] => 0
  | x :: r => uptoBulkEntry x + uptoBulkEntries r
def uptoBulkEntry {H : Type} : Lit × DataW H → Nat
  | (.string bytes, d) => bytes.length + uptoBulk d + 1
  | (_, d) => uptoBulk d + 1
 end
def uptoSmall : (H : Type) → List (DataW H) → Bool := fun _ ds => decide (uptoBulkAll ds ≤ 1048576)
def OpenSpec.upto (s : _root_.Go.ChangeSpec) : _root_.Go.OpenSpec := { _root_.Go.OpenSpec.ofChange s with cond := some uptoSmall }

/-- 'laws.FnExactStampOk', WHERE WHAT IT READS IS OF BULK AT MOST 1048576: true; the input reads as it did. -/
def fnExactStampOkUptoRow : OpenClaim := { program := "ytmkhhpnagmkgeaa", sum := "4527280d33bf7aeda1439bc9e5059b62f5908c8fb015eaee8c6ab100cf532d1d", func := "loop.example/corbel/laws.FnExactStampOk", spec := "fnExactStampOk", apart := false, narrowed := true }
def FnExactStampOkUptoSaid : Prop := fnExactStampOkUptoRow.holds Try.pinned (OpenSpec.upto fnExactStampOkSpec)

/-- 'laws.FnExactStampPut', WHERE WHAT IT READS IS OF BULK AT MOST 1048576: true; the input reads as it did. -/
def fnExactStampPutUptoRow : OpenClaim := { program := "ytmkhhpnagmkgeaa", sum := "4527280d33bf7aeda1439bc9e5059b62f5908c8fb015eaee8c6ab100cf532d1d", func := "loop.example/corbel/laws.FnExactStampPut", spec := "fnExactStampPut", apart := false, narrowed := true }
def FnExactStampPutUptoSaid : Prop := fnExactStampPutUptoRow.holds Try.pinned (OpenSpec.upto fnExactStampPutSpec)

/-- 'laws.FnStampDays', WHERE WHAT IT READS IS OF BULK AT MOST 1048576: true; the input reads as it did. -/
def fnStampDaysUptoRow : OpenClaim := { program := "ytmkhhpnagmkgeaa", sum := "4527280d33bf7aeda1439bc9e5059b62f5908c8fb015eaee8c6ab100cf532d1d", func := "loop.example/corbel/laws.FnStampDays", spec := "fnStampDays", apart := false, narrowed := true }
def FnStampDaysUptoSaid : Prop := fnStampDaysUptoRow.holds Try.pinned (OpenSpec.upto fnStampDaysSpec)

/-- 'laws.FnStampLast', WHERE WHAT IT READS IS OF BULK AT MOST 1048576: true; the input reads as it did. -/
def fnStampLastUptoRow : OpenClaim := { program := "ytmkhhpnagmkgeaa", sum := "4527280d33bf7aeda1439bc9e5059b62f5908c8fb015eaee8c6ab100cf532d1d", func := "loop.example/corbel/laws.FnStampLast", spec := "fnStampLast", apart := false, narrowed := true }
def FnStampLastUptoSaid : Prop := fnStampLastUptoRow.holds Try.pinned (OpenSpec.upto fnStampLastSpec)

/-- 'laws.FnStampOrder', WHERE WHAT IT READS IS OF BULK AT MOST 1048576: true; the input reads as it did. -/
def fnStampOrderUptoRow : OpenClaim := { program := "ytmkhhpnagmkgeaa", sum := "4527280d33bf7aeda1439bc9e5059b62f5908c8fb015eaee8c6ab100cf532d1d", func := "loop.example/corbel/laws.FnStampOrder", spec := "fnStampOrder", apart := false, narrowed := true }
def FnStampOrderUptoSaid : Prop := fnStampOrderUptoRow.holds Try.pinned (OpenSpec.upto fnStampOrderSpec)

/-- 'laws.FnExactStampGet', WHERE WHAT IT READS IS OF BULK AT MOST 1048576: true; the input reads as it did. -/
def fnExactStampGetUptoRow : OpenClaim := { program := "ytmkhhpnagmkgeaa", sum := "4527280d33bf7aeda1439bc9e5059b62f5908c8fb015eaee8c6ab100cf532d1d", func := "loop.example/corbel/laws.FnExactStampGet", spec := "fnExactStampGet", apart := false, narrowed := true }
def FnExactStampGetUptoSaid : Prop := fnExactStampGetUptoRow.holds Try.pinned (OpenSpec.upto fnExactStampGetSpec)

/-- 'laws.FnStamp', WHERE WHAT IT READS IS OF BULK AT MOST 1048576: true; the input reads as it did. -/
def fnStampUptoRow : OpenClaim := { program := "ytmkhhpnagmkgeaa", sum := "4527280d33bf7aeda1439bc9e5059b62f5908c8fb015eaee8c6ab100cf532d1d", func := "loop.example/corbel/laws.FnStamp", spec := "fnStamp", apart := false, narrowed := true }
def FnStampUptoSaid : Prop := fnStampUptoRow.holds Try.pinned (OpenSpec.upto fnStampSpec)

end Rows
end Go.Proofs.Ytmkhhpnagmkgeaa
