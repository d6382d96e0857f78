/-
  NARROWER THAN 'FOR EVERY INPUT', by the rows' own cells (each row's printed sentence says how): FnStoreBad: laid · FnStore: laid · FnStoreTwo: laid · FnExactOwnPut: laid · FnExactFlateGet: laid · FnExactFlateKind: laid · FnFixed: laid · FnExactFlatePut: laid · FnFlateShort: laid · FnOwn: laid · FnFlateMany: laid · FnFlateGet: laid · FnFlate: laid · FnFlateTwo: laid · FnFlateBad: laid · FnFlateKinds: laid · FnExactLocalGet: laid · FnExactLocalPut: laid.
  DERIVED. THE GIVEN ROWS OF THIS SEAT. 18 by the template 'for every input the law returns true; each argument reads behind the call as it read before'; 0 by the template 'total and deterministic' (their statements: YtncidljdfipigaaDoorTotals.lean).
  GIVEN WITH THE SEED: the statements are not yours to turn. If you find one false, say at which input.
  Laid BY PROGRAM, IN A SANDBOX (cutbox-rows.mjs): the forced cells as the released guide's own fill.sh prints them over the translation 6433ae8930663e9b… (all of the seat's roots in one cut). By AI agents, Wed Nov 11 2026. No macro, syntax, notation, axiom, sorry.
-/
import Derived.Test.YtncidljdfipigaaDoorChecked
import GoSem.PinnedTables
import GoSem.Claim
import GoSem.ClaimJoined
import GoSem.ClaimMapViews
import Derived.JoinedTies
import Derived.KernelRfl
namespace Go.Proofs.YtncidljdfipigaaDoor
/- THE CELL 'sum', in the pinned program and in every row, IS THE sha256 OF THE DUMP (.gsa) THAT YtncidljdfipigaaDoorProg.lean LOADS. Nothing in Lean hashes anything: it is a label: what it is worth is what the hold of that sum in a sandbox is worth. -/
noncomputable def Tryd.pinned : Pinned := { name := "ytncidljdfipigaadoor", sum := "6433ae8930663e9b586dbcfc7fb568aabe48a8eaff555792d5d7a9585510aad5", checked := Tryd.checked }
namespace Rows
def none {H : Type} : Left H := { results := [], args := [] }

/- WHAT THE LISTED PACKAGE-LEVEL VARIABLES READ AS WHEN THE CALL BEGINS. Each datum BY PROGRAM (the guide's laid-datum.mjs) off the statement by which the dump's own 'gosem.cut.vars' lays the variable. In a bare row this is a premise. The card (YtncidljdfipigaaDoorCards.lean) ties it to the program's text. -/
def laid_loop_example_corbel_impl_order {H : Type} : DataW H := .slice [.lit (.int .i64 16), .lit (.int .i64 17), .lit (.int .i64 18), .lit (.int .i64 0), .lit (.int .i64 8), .lit (.int .i64 7), .lit (.int .i64 9), .lit (.int .i64 6), .lit (.int .i64 10), .lit (.int .i64 5), .lit (.int .i64 11), .lit (.int .i64 4), .lit (.int .i64 12), .lit (.int .i64 3), .lit (.int .i64 13), .lit (.int .i64 2), .lit (.int .i64 14), .lit (.int .i64 1), .lit (.int .i64 15)] []
def laid_unicode_utf8_acceptRanges {H : Type} : DataW H := .agg [.agg [.lit (.int .u8 128), .lit (.int .u8 191)], .agg [.lit (.int .u8 160), .lit (.int .u8 191)], .agg [.lit (.int .u8 128), .lit (.int .u8 159)], .agg [.lit (.int .u8 144), .lit (.int .u8 191)], .agg [.lit (.int .u8 128), .lit (.int .u8 143)], .agg [.lit (.int .u8 0), .lit (.int .u8 0)], .agg [.lit (.int .u8 0), .lit (.int .u8 0)], .agg [.lit (.int .u8 0), .lit (.int .u8 0)], .agg [.lit (.int .u8 0), .lit (.int .u8 0)], .agg [.lit (.int .u8 0), .lit (.int .u8 0)], .agg [.lit (.int .u8 0), .lit (.int .u8 0)], .agg [.lit (.int .u8 0), .lit (.int .u8 0)], .agg [.lit (.int .u8 0), .lit (.int .u8 0)], .agg [.lit (.int .u8 0), .lit (.int .u8 0)], .agg [.lit (.int .u8 0), .lit (.int .u8 0)], .agg [.lit (.int .u8 0), .lit (.int .u8 0)]]
/-- One of Go's own tables, pinned by name: the form's constant. -/
def laid_unicode_utf8_first : DataW Unit := Go.Pinned.utf8First

/-- 'laws.FnStoreBad': WHATEVER THE INPUT: true; the input reads as it did. -/
def fnStoreBadSpec : ChangeSpec := { name := "fnStoreBad", vars := ["loop.example/corbel/impl.order"], fn := fun _ => fun
  | [d1, d2, g1] => { results := [.lit (.bool true)], args := [d1, d2], vars := [g1] }
  | _ => none }
def fnStoreBadRow : OpenClaim := { program := "ytncidljdfipigaadoor", sum := "6433ae8930663e9b586dbcfc7fb568aabe48a8eaff555792d5d7a9585510aad5", func := "loop.example/corbel/laws.FnStoreBad", spec := "fnStoreBad", named := ["loop.example/corbel/impl.order"], plainKeys := false, apart := false, laid := [("loop.example/corbel/impl.order", laid_loop_example_corbel_impl_order)] }
def FnStoreBadSaid : Prop := fnStoreBadRow.holds Tryd.pinned (OpenSpec.ofChange fnStoreBadSpec)

/-- ITS FALSE NEIGHBOUR: 'it returns false'. Refute it at one input. -/
def fnStoreBadWrong : ChangeSpec := { name := "fnStoreBad", vars := ["loop.example/corbel/impl.order"], fn := fun _ => fun
  | [d1, d2, g1] => { results := [.lit (.bool false)], args := [d1, d2], vars := [g1] }
  | _ => none }
def FnStoreBadWrongFalsely : Prop := fnStoreBadRow.holds Tryd.pinned (OpenSpec.ofChange fnStoreBadWrong)

/-- 'laws.FnStore': WHATEVER THE INPUT: true; the input reads as it did. -/
def fnStoreSpec : ChangeSpec := { name := "fnStore", vars := ["loop.example/corbel/impl.order"], fn := fun _ => fun
  | [d, g1] => { results := [.lit (.bool true)], args := [d], vars := [g1] }
  | _ => none }
def fnStoreRow : OpenClaim := { program := "ytncidljdfipigaadoor", sum := "6433ae8930663e9b586dbcfc7fb568aabe48a8eaff555792d5d7a9585510aad5", func := "loop.example/corbel/laws.FnStore", spec := "fnStore", named := ["loop.example/corbel/impl.order"], plainKeys := false, apart := false, laid := [("loop.example/corbel/impl.order", laid_loop_example_corbel_impl_order)] }
def FnStoreSaid : Prop := fnStoreRow.holds Tryd.pinned (OpenSpec.ofChange fnStoreSpec)

/-- ITS FALSE NEIGHBOUR: 'it returns false'. Refute it at one input. -/
def fnStoreWrong : ChangeSpec := { name := "fnStore", vars := ["loop.example/corbel/impl.order"], fn := fun _ => fun
  | [d, g1] => { results := [.lit (.bool false)], args := [d], vars := [g1] }
  | _ => none }
def FnStoreWrongFalsely : Prop := fnStoreRow.holds Tryd.pinned (OpenSpec.ofChange fnStoreWrong)

/-- 'laws.FnStoreTwo': WHATEVER THE INPUT: true; the input reads as it did. -/
def fnStoreTwoSpec : ChangeSpec := { name := "fnStoreTwo", vars := ["loop.example/corbel/impl.order"], fn := fun _ => fun
  | [d1, d2, g1] => { results := [.lit (.bool true)], args := [d1, d2], vars := [g1] }
  | _ => none }
def fnStoreTwoRow : OpenClaim := { program := "ytncidljdfipigaadoor", sum := "6433ae8930663e9b586dbcfc7fb568aabe48a8eaff555792d5d7a9585510aad5", func := "loop.example/corbel/laws.FnStoreTwo", spec := "fnStoreTwo", named := ["loop.example/corbel/impl.order"], plainKeys := false, apart := false, laid := [("loop.example/corbel/impl.order", laid_loop_example_corbel_impl_order)] }
def FnStoreTwoSaid : Prop := fnStoreTwoRow.holds Tryd.pinned (OpenSpec.ofChange fnStoreTwoSpec)

/-- ITS FALSE NEIGHBOUR: 'it returns false'. Refute it at one input. -/
def fnStoreTwoWrong : ChangeSpec := { name := "fnStoreTwo", vars := ["loop.example/corbel/impl.order"], fn := fun _ => fun
  | [d1, d2, g1] => { results := [.lit (.bool false)], args := [d1, d2], vars := [g1] }
  | _ => none }
def FnStoreTwoWrongFalsely : Prop := fnStoreTwoRow.holds Tryd.pinned (OpenSpec.ofChange fnStoreTwoWrong)

/-- 'laws.FnExactOwnPut': WHATEVER THE INPUT: true; the input reads as it did. -/
def fnExactOwnPutSpec : ChangeSpec := { name := "fnExactOwnPut", vars := ["loop.example/corbel/impl.order"], fn := fun _ => fun
  | [d, g1] => { results := [.lit (.bool true)], args := [d], vars := [g1] }
  | _ => none }
def fnExactOwnPutRow : OpenClaim := { program := "ytncidljdfipigaadoor", sum := "6433ae8930663e9b586dbcfc7fb568aabe48a8eaff555792d5d7a9585510aad5", func := "loop.example/corbel/laws.FnExactOwnPut", spec := "fnExactOwnPut", named := ["loop.example/corbel/impl.order"], plainKeys := false, apart := false, laid := [("loop.example/corbel/impl.order", laid_loop_example_corbel_impl_order)] }
def FnExactOwnPutSaid : Prop := fnExactOwnPutRow.holds Tryd.pinned (OpenSpec.ofChange fnExactOwnPutSpec)

/-- ITS FALSE NEIGHBOUR: 'it returns false'. Refute it at one input. -/
def fnExactOwnPutWrong : ChangeSpec := { name := "fnExactOwnPut", vars := ["loop.example/corbel/impl.order"], fn := fun _ => fun
  | [d, g1] => { results := [.lit (.bool false)], args := [d], vars := [g1] }
  | _ => none }
def FnExactOwnPutWrongFalsely : Prop := fnExactOwnPutRow.holds Tryd.pinned (OpenSpec.ofChange fnExactOwnPutWrong)

/-- 'laws.FnExactFlateGet': WHATEVER THE INPUT: true; the input reads as it did. -/
def fnExactFlateGetSpec : ChangeSpec := { name := "fnExactFlateGet", vars := ["loop.example/corbel/impl.order"], fn := fun _ => fun
  | [d, g1] => { results := [.lit (.bool true)], args := [d], vars := [g1] }
  | _ => none }
def fnExactFlateGetRow : OpenClaim := { program := "ytncidljdfipigaadoor", sum := "6433ae8930663e9b586dbcfc7fb568aabe48a8eaff555792d5d7a9585510aad5", func := "loop.example/corbel/laws.FnExactFlateGet", spec := "fnExactFlateGet", named := ["loop.example/corbel/impl.order"], plainKeys := false, apart := false, laid := [("loop.example/corbel/impl.order", laid_loop_example_corbel_impl_order)] }
def FnExactFlateGetSaid : Prop := fnExactFlateGetRow.holds Tryd.pinned (OpenSpec.ofChange fnExactFlateGetSpec)

/-- ITS FALSE NEIGHBOUR: 'it returns false'. Refute it at one input. -/
def fnExactFlateGetWrong : ChangeSpec := { name := "fnExactFlateGet", vars := ["loop.example/corbel/impl.order"], fn := fun _ => fun
  | [d, g1] => { results := [.lit (.bool false)], args := [d], vars := [g1] }
  | _ => none }
def FnExactFlateGetWrongFalsely : Prop := fnExactFlateGetRow.holds Tryd.pinned (OpenSpec.ofChange fnExactFlateGetWrong)

/-- 'laws.FnExactFlateKind': WHATEVER THE INPUT: true; the input reads as it did. -/
def fnExactFlateKindSpec : ChangeSpec := { name := "fnExactFlateKind", vars := ["loop.example/corbel/impl.order"], fn := fun _ => fun
  | [d, g1] => { results := [.lit (.bool true)], args := [d], vars := [g1] }
  | _ => none }
def fnExactFlateKindRow : OpenClaim := { program := "ytncidljdfipigaadoor", sum := "6433ae8930663e9b586dbcfc7fb568aabe48a8eaff555792d5d7a9585510aad5", func := "loop.example/corbel/laws.FnExactFlateKind", spec := "fnExactFlateKind", named := ["loop.example/corbel/impl.order"], plainKeys := false, apart := false, laid := [("loop.example/corbel/impl.order", laid_loop_example_corbel_impl_order)] }
def FnExactFlateKindSaid : Prop := fnExactFlateKindRow.holds Tryd.pinned (OpenSpec.ofChange fnExactFlateKindSpec)

/-- ITS FALSE NEIGHBOUR: 'it returns false'. Refute it at one input. -/
def fnExactFlateKindWrong : ChangeSpec := { name := "fnExactFlateKind", vars := ["loop.example/corbel/impl.order"], fn := fun _ => fun
  | [d, g1] => { results := [.lit (.bool false)], args := [d], vars := [g1] }
  | _ => none }
def FnExactFlateKindWrongFalsely : Prop := fnExactFlateKindRow.holds Tryd.pinned (OpenSpec.ofChange fnExactFlateKindWrong)

/-- 'laws.FnFixed': WHATEVER THE INPUT: true; the input reads as it did. -/
def fnFixedSpec : ChangeSpec := { name := "fnFixed", vars := ["loop.example/corbel/impl.order"], fn := fun _ => fun
  | [d, g1] => { results := [.lit (.bool true)], args := [d], vars := [g1] }
  | _ => none }
def fnFixedRow : OpenClaim := { program := "ytncidljdfipigaadoor", sum := "6433ae8930663e9b586dbcfc7fb568aabe48a8eaff555792d5d7a9585510aad5", func := "loop.example/corbel/laws.FnFixed", spec := "fnFixed", named := ["loop.example/corbel/impl.order"], plainKeys := false, apart := false, laid := [("loop.example/corbel/impl.order", laid_loop_example_corbel_impl_order)] }
def FnFixedSaid : Prop := fnFixedRow.holds Tryd.pinned (OpenSpec.ofChange fnFixedSpec)

/-- ITS FALSE NEIGHBOUR: 'it returns false'. Refute it at one input. -/
def fnFixedWrong : ChangeSpec := { name := "fnFixed", vars := ["loop.example/corbel/impl.order"], fn := fun _ => fun
  | [d, g1] => { results := [.lit (.bool false)], args := [d], vars := [g1] }
  | _ => none }
def FnFixedWrongFalsely : Prop := fnFixedRow.holds Tryd.pinned (OpenSpec.ofChange fnFixedWrong)

/-- 'laws.FnExactFlatePut': WHATEVER THE INPUT: true; the input reads as it did. -/
def fnExactFlatePutSpec : ChangeSpec := { name := "fnExactFlatePut", vars := ["loop.example/corbel/impl.order"], fn := fun _ => fun
  | [d, g1] => { results := [.lit (.bool true)], args := [d], vars := [g1] }
  | _ => none }
def fnExactFlatePutRow : OpenClaim := { program := "ytncidljdfipigaadoor", sum := "6433ae8930663e9b586dbcfc7fb568aabe48a8eaff555792d5d7a9585510aad5", func := "loop.example/corbel/laws.FnExactFlatePut", spec := "fnExactFlatePut", named := ["loop.example/corbel/impl.order"], plainKeys := false, apart := false, laid := [("loop.example/corbel/impl.order", laid_loop_example_corbel_impl_order)] }
def FnExactFlatePutSaid : Prop := fnExactFlatePutRow.holds Tryd.pinned (OpenSpec.ofChange fnExactFlatePutSpec)

/-- ITS FALSE NEIGHBOUR: 'it returns false'. Refute it at one input. -/
def fnExactFlatePutWrong : ChangeSpec := { name := "fnExactFlatePut", vars := ["loop.example/corbel/impl.order"], fn := fun _ => fun
  | [d, g1] => { results := [.lit (.bool false)], args := [d], vars := [g1] }
  | _ => none }
def FnExactFlatePutWrongFalsely : Prop := fnExactFlatePutRow.holds Tryd.pinned (OpenSpec.ofChange fnExactFlatePutWrong)

/-- 'laws.FnFlateShort': WHATEVER THE INPUT: true; the input reads as it did. -/
def fnFlateShortSpec : ChangeSpec := { name := "fnFlateShort", vars := ["loop.example/corbel/impl.order"], fn := fun _ => fun
  | [d, g1] => { results := [.lit (.bool true)], args := [d], vars := [g1] }
  | _ => none }
def fnFlateShortRow : OpenClaim := { program := "ytncidljdfipigaadoor", sum := "6433ae8930663e9b586dbcfc7fb568aabe48a8eaff555792d5d7a9585510aad5", func := "loop.example/corbel/laws.FnFlateShort", spec := "fnFlateShort", named := ["loop.example/corbel/impl.order"], plainKeys := false, apart := false, laid := [("loop.example/corbel/impl.order", laid_loop_example_corbel_impl_order)] }
def FnFlateShortSaid : Prop := fnFlateShortRow.holds Tryd.pinned (OpenSpec.ofChange fnFlateShortSpec)

/-- ITS FALSE NEIGHBOUR: 'it returns false'. Refute it at one input. -/
def fnFlateShortWrong : ChangeSpec := { name := "fnFlateShort", vars := ["loop.example/corbel/impl.order"], fn := fun _ => fun
  | [d, g1] => { results := [.lit (.bool false)], args := [d], vars := [g1] }
  | _ => none }
def FnFlateShortWrongFalsely : Prop := fnFlateShortRow.holds Tryd.pinned (OpenSpec.ofChange fnFlateShortWrong)

/-- 'laws.FnOwn': WHATEVER THE INPUT: true; the input reads as it did. -/
def fnOwnSpec : ChangeSpec := { name := "fnOwn", vars := ["loop.example/corbel/impl.order"], fn := fun _ => fun
  | [d, g1] => { results := [.lit (.bool true)], args := [d], vars := [g1] }
  | _ => none }
def fnOwnRow : OpenClaim := { program := "ytncidljdfipigaadoor", sum := "6433ae8930663e9b586dbcfc7fb568aabe48a8eaff555792d5d7a9585510aad5", func := "loop.example/corbel/laws.FnOwn", spec := "fnOwn", named := ["loop.example/corbel/impl.order"], plainKeys := false, apart := false, laid := [("loop.example/corbel/impl.order", laid_loop_example_corbel_impl_order)] }
def FnOwnSaid : Prop := fnOwnRow.holds Tryd.pinned (OpenSpec.ofChange fnOwnSpec)

/-- ITS FALSE NEIGHBOUR: 'it returns false'. Refute it at one input. -/
def fnOwnWrong : ChangeSpec := { name := "fnOwn", vars := ["loop.example/corbel/impl.order"], fn := fun _ => fun
  | [d, g1] => { results := [.lit (.bool false)], args := [d], vars := [g1] }
  | _ => none }
def FnOwnWrongFalsely : Prop := fnOwnRow.holds Tryd.pinned (OpenSpec.ofChange fnOwnWrong)

/-- 'laws.FnFlateMany': WHATEVER THE INPUT: true; the input reads as it did. -/
def fnFlateManySpec : ChangeSpec := { name := "fnFlateMany", vars := ["loop.example/corbel/impl.order"], fn := fun _ => fun
  | [d, g1] => { results := [.lit (.bool true)], args := [d], vars := [g1] }
  | _ => none }
def fnFlateManyRow : OpenClaim := { program := "ytncidljdfipigaadoor", sum := "6433ae8930663e9b586dbcfc7fb568aabe48a8eaff555792d5d7a9585510aad5", func := "loop.example/corbel/laws.FnFlateMany", spec := "fnFlateMany", named := ["loop.example/corbel/impl.order"], plainKeys := false, apart := false, laid := [("loop.example/corbel/impl.order", laid_loop_example_corbel_impl_order)] }
def FnFlateManySaid : Prop := fnFlateManyRow.holds Tryd.pinned (OpenSpec.ofChange fnFlateManySpec)

/-- ITS FALSE NEIGHBOUR: 'it returns false'. Refute it at one input. -/
def fnFlateManyWrong : ChangeSpec := { name := "fnFlateMany", vars := ["loop.example/corbel/impl.order"], fn := fun _ => fun
  | [d, g1] => { results := [.lit (.bool false)], args := [d], vars := [g1] }
  | _ => none }
def FnFlateManyWrongFalsely : Prop := fnFlateManyRow.holds Tryd.pinned (OpenSpec.ofChange fnFlateManyWrong)

/-- 'laws.FnFlateGet': WHATEVER THE INPUT: true; the input reads as it did. -/
def fnFlateGetSpec : ChangeSpec := { name := "fnFlateGet", vars := ["loop.example/corbel/impl.order"], fn := fun _ => fun
  | [d, g1] => { results := [.lit (.bool true)], args := [d], vars := [g1] }
  | _ => none }
def fnFlateGetRow : OpenClaim := { program := "ytncidljdfipigaadoor", sum := "6433ae8930663e9b586dbcfc7fb568aabe48a8eaff555792d5d7a9585510aad5", func := "loop.example/corbel/laws.FnFlateGet", spec := "fnFlateGet", named := ["loop.example/corbel/impl.order"], plainKeys := false, apart := false, laid := [("loop.example/corbel/impl.order", laid_loop_example_corbel_impl_order)] }
def FnFlateGetSaid : Prop := fnFlateGetRow.holds Tryd.pinned (OpenSpec.ofChange fnFlateGetSpec)

/-- ITS FALSE NEIGHBOUR: 'it returns false'. Refute it at one input. -/
def fnFlateGetWrong : ChangeSpec := { name := "fnFlateGet", vars := ["loop.example/corbel/impl.order"], fn := fun _ => fun
  | [d, g1] => { results := [.lit (.bool false)], args := [d], vars := [g1] }
  | _ => none }
def FnFlateGetWrongFalsely : Prop := fnFlateGetRow.holds Tryd.pinned (OpenSpec.ofChange fnFlateGetWrong)

/-- 'laws.FnFlate': WHATEVER THE INPUT: true; the input reads as it did. -/
def fnFlateSpec : ChangeSpec := { name := "fnFlate", vars := ["loop.example/corbel/impl.order"], fn := fun _ => fun
  | [d, g1] => { results := [.lit (.bool true)], args := [d], vars := [g1] }
  | _ => none }
def fnFlateRow : OpenClaim := { program := "ytncidljdfipigaadoor", sum := "6433ae8930663e9b586dbcfc7fb568aabe48a8eaff555792d5d7a9585510aad5", func := "loop.example/corbel/laws.FnFlate", spec := "fnFlate", named := ["loop.example/corbel/impl.order"], plainKeys := false, apart := false, laid := [("loop.example/corbel/impl.order", laid_loop_example_corbel_impl_order)] }
def FnFlateSaid : Prop := fnFlateRow.holds Tryd.pinned (OpenSpec.ofChange fnFlateSpec)

/-- ITS FALSE NEIGHBOUR: 'it returns false'. Refute it at one input. -/
def fnFlateWrong : ChangeSpec := { name := "fnFlate", vars := ["loop.example/corbel/impl.order"], fn := fun _ => fun
  | [d, g1] => { results := [.lit (.bool false)], args := [d], vars := [g1] }
  | _ => none }
def FnFlateWrongFalsely : Prop := fnFlateRow.holds Tryd.pinned (OpenSpec.ofChange fnFlateWrong)

/-- 'laws.FnFlateTwo': WHATEVER THE INPUT: true; the input reads as it did. -/
def fnFlateTwoSpec : ChangeSpec := { name := "fnFlateTwo", vars := ["loop.example/corbel/impl.order"], fn := fun _ => fun
  | [d, g1] => { results := [.lit (.bool true)], args := [d], vars := [g1] }
  | _ => none }
def fnFlateTwoRow : OpenClaim := { program := "ytncidljdfipigaadoor", sum := "6433ae8930663e9b586dbcfc7fb568aabe48a8eaff555792d5d7a9585510aad5", func := "loop.example/corbel/laws.FnFlateTwo", spec := "fnFlateTwo", named := ["loop.example/corbel/impl.order"], plainKeys := false, apart := false, laid := [("loop.example/corbel/impl.order", laid_loop_example_corbel_impl_order)] }
def FnFlateTwoSaid : Prop := fnFlateTwoRow.holds Tryd.pinned (OpenSpec.ofChange fnFlateTwoSpec)

/-- ITS FALSE NEIGHBOUR: 'it returns false'. Refute it at one input. -/
def fnFlateTwoWrong : ChangeSpec := { name := "fnFlateTwo", vars := ["loop.example/corbel/impl.order"], fn := fun _ => fun
  | [d, g1] => { results := [.lit (.bool false)], args := [d], vars := [g1] }
  | _ => none }
def FnFlateTwoWrongFalsely : Prop := fnFlateTwoRow.holds Tryd.pinned (OpenSpec.ofChange fnFlateTwoWrong)

/-- 'laws.FnFlateBad': WHATEVER THE INPUT: true; the input reads as it did. -/
def fnFlateBadSpec : ChangeSpec := { name := "fnFlateBad", vars := ["loop.example/corbel/impl.order"], fn := fun _ => fun
  | [d, g1] => { results := [.lit (.bool true)], args := [d], vars := [g1] }
  | _ => none }
def fnFlateBadRow : OpenClaim := { program := "ytncidljdfipigaadoor", sum := "6433ae8930663e9b586dbcfc7fb568aabe48a8eaff555792d5d7a9585510aad5", func := "loop.example/corbel/laws.FnFlateBad", spec := "fnFlateBad", named := ["loop.example/corbel/impl.order"], plainKeys := false, apart := false, laid := [("loop.example/corbel/impl.order", laid_loop_example_corbel_impl_order)] }
def FnFlateBadSaid : Prop := fnFlateBadRow.holds Tryd.pinned (OpenSpec.ofChange fnFlateBadSpec)

/-- ITS FALSE NEIGHBOUR: 'it returns false'. Refute it at one input. -/
def fnFlateBadWrong : ChangeSpec := { name := "fnFlateBad", vars := ["loop.example/corbel/impl.order"], fn := fun _ => fun
  | [d, g1] => { results := [.lit (.bool false)], args := [d], vars := [g1] }
  | _ => none }
def FnFlateBadWrongFalsely : Prop := fnFlateBadRow.holds Tryd.pinned (OpenSpec.ofChange fnFlateBadWrong)

/-- 'laws.FnFlateKinds': WHATEVER THE INPUT: true; the input reads as it did. -/
def fnFlateKindsSpec : ChangeSpec := { name := "fnFlateKinds", vars := ["loop.example/corbel/impl.order"], fn := fun _ => fun
  | [d, g1] => { results := [.lit (.bool true)], args := [d], vars := [g1] }
  | _ => none }
def fnFlateKindsRow : OpenClaim := { program := "ytncidljdfipigaadoor", sum := "6433ae8930663e9b586dbcfc7fb568aabe48a8eaff555792d5d7a9585510aad5", func := "loop.example/corbel/laws.FnFlateKinds", spec := "fnFlateKinds", named := ["loop.example/corbel/impl.order"], plainKeys := false, apart := false, laid := [("loop.example/corbel/impl.order", laid_loop_example_corbel_impl_order)] }
def FnFlateKindsSaid : Prop := fnFlateKindsRow.holds Tryd.pinned (OpenSpec.ofChange fnFlateKindsSpec)

/-- ITS FALSE NEIGHBOUR: 'it returns false'. Refute it at one input. -/
def fnFlateKindsWrong : ChangeSpec := { name := "fnFlateKinds", vars := ["loop.example/corbel/impl.order"], fn := fun _ => fun
  | [d, g1] => { results := [.lit (.bool false)], args := [d], vars := [g1] }
  | _ => none }
def FnFlateKindsWrongFalsely : Prop := fnFlateKindsRow.holds Tryd.pinned (OpenSpec.ofChange fnFlateKindsWrong)

/-- 'laws.FnExactLocalGet': WHATEVER THE INPUT: true; the input reads as it did. -/
def fnExactLocalGetSpec : ChangeSpec := { name := "fnExactLocalGet", vars := ["loop.example/corbel/impl.order"], fn := fun _ => fun
  | [d, g1] => { results := [.lit (.bool true)], args := [d], vars := [g1] }
  | _ => none }
def fnExactLocalGetRow : OpenClaim := { program := "ytncidljdfipigaadoor", sum := "6433ae8930663e9b586dbcfc7fb568aabe48a8eaff555792d5d7a9585510aad5", func := "loop.example/corbel/laws.FnExactLocalGet", spec := "fnExactLocalGet", inPlace := ["internal/bytealg.CountString", "internal/bytealg.IndexByteString", "internal/bytealg.IndexString"], named := ["loop.example/corbel/impl.order", "unicode/utf8.first", "unicode/utf8.acceptRanges", "internal/bytealg.MaxLen"], plainKeys := false, apart := false, laid := [("unicode/utf8.acceptRanges", laid_unicode_utf8_acceptRanges), ("loop.example/corbel/impl.order", laid_loop_example_corbel_impl_order), ("unicode/utf8.first", laid_unicode_utf8_first)] }
def FnExactLocalGetSaid : Prop := fnExactLocalGetRow.holds Tryd.pinned (OpenSpec.ofChange fnExactLocalGetSpec)

/-- ITS FALSE NEIGHBOUR: 'it returns false'. Refute it at one input. -/
def fnExactLocalGetWrong : ChangeSpec := { name := "fnExactLocalGet", vars := ["loop.example/corbel/impl.order"], fn := fun _ => fun
  | [d, g1] => { results := [.lit (.bool false)], args := [d], vars := [g1] }
  | _ => none }
def FnExactLocalGetWrongFalsely : Prop := fnExactLocalGetRow.holds Tryd.pinned (OpenSpec.ofChange fnExactLocalGetWrong)

/-- 'laws.FnExactLocalPut': WHATEVER THE INPUT: true; the input reads as it did. -/
def fnExactLocalPutSpec : ChangeSpec := { name := "fnExactLocalPut", vars := ["loop.example/corbel/impl.order"], fn := fun _ => fun
  | [d, g1] => { results := [.lit (.bool true)], args := [d], vars := [g1] }
  | _ => none }
def fnExactLocalPutRow : OpenClaim := { program := "ytncidljdfipigaadoor", sum := "6433ae8930663e9b586dbcfc7fb568aabe48a8eaff555792d5d7a9585510aad5", func := "loop.example/corbel/laws.FnExactLocalPut", spec := "fnExactLocalPut", inPlace := ["internal/bytealg.CountString", "internal/bytealg.IndexByteString", "internal/bytealg.IndexString"], named := ["unicode/utf8.first", "unicode/utf8.acceptRanges", "internal/bytealg.MaxLen", "loop.example/corbel/impl.order"], plainKeys := false, apart := false, laid := [("unicode/utf8.acceptRanges", laid_unicode_utf8_acceptRanges), ("loop.example/corbel/impl.order", laid_loop_example_corbel_impl_order), ("unicode/utf8.first", laid_unicode_utf8_first)] }
def FnExactLocalPutSaid : Prop := fnExactLocalPutRow.holds Tryd.pinned (OpenSpec.ofChange fnExactLocalPutSpec)

/-- ITS FALSE NEIGHBOUR: 'it returns false'. Refute it at one input. -/
def fnExactLocalPutWrong : ChangeSpec := { name := "fnExactLocalPut", vars := ["loop.example/corbel/impl.order"], fn := fun _ => fun
  | [d, g1] => { results := [.lit (.bool false)], args := [d], vars := [g1] }
  | _ => none }
def FnExactLocalPutWrongFalsely : Prop := fnExactLocalPutRow.holds Tryd.pinned (OpenSpec.ofChange fnExactLocalPutWrong)

/- THE SECOND FORM. 'bulk': how many values and letters a reading holds, each counted each time it is reached (what is shared counts as often as it is met; a slice's spare places count too). A statement '..UptoSaid' is the law's where the arguments, and the package variables that the reading takes, are together of bulk at most 1048576: NARROWER than '..Said'. Prove '..Said' where nothing that the law and all that it calls make is longer than what came in: it says more and counts as full. Else prove '..UptoSaid'. A law counts once. -/
mutual
def uptoBulk {H : Type} : DataW H → Nat
  | .lit (.string bytes) => bytes.length + 1
  | .lit _ => 1
  | .nil => 1
  | .ptr d => uptoBulk d + 1
  | .slice elems spare => uptoBulkAll elems + uptoBulkAll spare + 1
  | .agg parts => uptoBulkAll parts + 1
  | .iface _ d => uptoBulk d + 1
  | .map entries => uptoBulkEntries entries + 1
  | .held _ => 1
def uptoBulkAll {H : Type} : List (DataW H) → Nat
  | [] => 0
  | d :: r => uptoBulk d + uptoBulkAll r
def uptoBulkEntries {H : Type} : List (Lit × DataW H) → Nat
  | [] => 0
  | x :: r => uptoBulkEntry x + uptoBulkEntries r
def uptoBulkEntry {H : Type} : Lit × DataW H → Nat
  | (.string bytes, d) => bytes.length + uptoBulk d + 1
  | (_, d) => uptoBulk d + 1
 end
def uptoSmall : (H : Type) → List (DataW H) → Bool := fun _ ds => decide (uptoBulkAll ds ≤ 1048576)
def OpenSpec.upto (s : _root_.Go.ChangeSpec) : _root_.Go.OpenSpec := { _root_.Go.OpenSpec.ofChange s with cond := some uptoSmall }

/-- 'laws.FnStoreBad', WHERE WHAT IT READS IS OF BULK AT MOST 1048576: true; the input reads as it did. -/
def fnStoreBadUptoRow : OpenClaim := { program := "ytncidljdfipigaadoor", sum := "6433ae8930663e9b586dbcfc7fb568aabe48a8eaff555792d5d7a9585510aad5", func := "loop.example/corbel/laws.FnStoreBad", spec := "fnStoreBad", named := ["loop.example/corbel/impl.order"], plainKeys := false, apart := false, laid := [("loop.example/corbel/impl.order", laid_loop_example_corbel_impl_order)], narrowed := true }
def FnStoreBadUptoSaid : Prop := fnStoreBadUptoRow.holds Tryd.pinned (OpenSpec.upto fnStoreBadSpec)

/-- 'laws.FnStore', WHERE WHAT IT READS IS OF BULK AT MOST 1048576: true; the input reads as it did. -/
def fnStoreUptoRow : OpenClaim := { program := "ytncidljdfipigaadoor", sum := "6433ae8930663e9b586dbcfc7fb568aabe48a8eaff555792d5d7a9585510aad5", func := "loop.example/corbel/laws.FnStore", spec := "fnStore", named := ["loop.example/corbel/impl.order"], plainKeys := false, apart := false, laid := [("loop.example/corbel/impl.order", laid_loop_example_corbel_impl_order)], narrowed := true }
def FnStoreUptoSaid : Prop := fnStoreUptoRow.holds Tryd.pinned (OpenSpec.upto fnStoreSpec)

/-- 'laws.FnStoreTwo', WHERE WHAT IT READS IS OF BULK AT MOST 1048576: true; the input reads as it did. -/
def fnStoreTwoUptoRow : OpenClaim := { program := "ytncidljdfipigaadoor", sum := "6433ae8930663e9b586dbcfc7fb568aabe48a8eaff555792d5d7a9585510aad5", func := "loop.example/corbel/laws.FnStoreTwo", spec := "fnStoreTwo", named := ["loop.example/corbel/impl.order"], plainKeys := false, apart := false, laid := [("loop.example/corbel/impl.order", laid_loop_example_corbel_impl_order)], narrowed := true }
def FnStoreTwoUptoSaid : Prop := fnStoreTwoUptoRow.holds Tryd.pinned (OpenSpec.upto fnStoreTwoSpec)

/-- 'laws.FnExactOwnPut', WHERE WHAT IT READS IS OF BULK AT MOST 1048576: true; the input reads as it did. -/
def fnExactOwnPutUptoRow : OpenClaim := { program := "ytncidljdfipigaadoor", sum := "6433ae8930663e9b586dbcfc7fb568aabe48a8eaff555792d5d7a9585510aad5", func := "loop.example/corbel/laws.FnExactOwnPut", spec := "fnExactOwnPut", named := ["loop.example/corbel/impl.order"], plainKeys := false, apart := false, laid := [("loop.example/corbel/impl.order", laid_loop_example_corbel_impl_order)], narrowed := true }
def FnExactOwnPutUptoSaid : Prop := fnExactOwnPutUptoRow.holds Tryd.pinned (OpenSpec.upto fnExactOwnPutSpec)

/-- 'laws.FnExactFlateGet', WHERE WHAT IT READS IS OF BULK AT MOST 1048576: true; the input reads as it did. -/
def fnExactFlateGetUptoRow : OpenClaim := { program := "ytncidljdfipigaadoor", sum := "6433ae8930663e9b586dbcfc7fb568aabe48a8eaff555792d5d7a9585510aad5", func := "loop.example/corbel/laws.FnExactFlateGet", spec := "fnExactFlateGet", named := ["loop.example/corbel/impl.order"], plainKeys := false, apart := false, laid := [("loop.example/corbel/impl.order", laid_loop_example_corbel_impl_order)], narrowed := true }
def FnExactFlateGetUptoSaid : Prop := fnExactFlateGetUptoRow.holds Tryd.pinned (OpenSpec.upto fnExactFlateGetSpec)

/-- 'laws.FnExactFlateKind', WHERE WHAT IT READS IS OF BULK AT MOST 1048576: true; the input reads as it did. -/
def fnExactFlateKindUptoRow : OpenClaim := { program := "ytncidljdfipigaadoor", sum := "6433ae8930663e9b586dbcfc7fb568aabe48a8eaff555792d5d7a9585510aad5", func := "loop.example/corbel/laws.FnExactFlateKind", spec := "fnExactFlateKind", named := ["loop.example/corbel/impl.order"], plainKeys := false, apart := false, laid := [("loop.example/corbel/impl.order", laid_loop_example_corbel_impl_order)], narrowed := true }
def FnExactFlateKindUptoSaid : Prop := fnExactFlateKindUptoRow.holds Tryd.pinned (OpenSpec.upto fnExactFlateKindSpec)

/-- 'laws.FnFixed', WHERE WHAT IT READS IS OF BULK AT MOST 1048576: true; the input reads as it did. -/
def fnFixedUptoRow : OpenClaim := { program := "ytncidljdfipigaadoor", sum := "6433ae8930663e9b586dbcfc7fb568aabe48a8eaff555792d5d7a9585510aad5", func := "loop.example/corbel/laws.FnFixed", spec := "fnFixed", named := ["loop.example/corbel/impl.order"], plainKeys := false, apart := false, laid := [("loop.example/corbel/impl.order", laid_loop_example_corbel_impl_order)], narrowed := true }
def FnFixedUptoSaid : Prop := fnFixedUptoRow.holds Tryd.pinned (OpenSpec.upto fnFixedSpec)

/-- 'laws.FnExactFlatePut', WHERE WHAT IT READS IS OF BULK AT MOST 1048576: true; the input reads as it did. -/
def fnExactFlatePutUptoRow : OpenClaim := { program := "ytncidljdfipigaadoor", sum := "6433ae8930663e9b586dbcfc7fb568aabe48a8eaff555792d5d7a9585510aad5", func := "loop.example/corbel/laws.FnExactFlatePut", spec := "fnExactFlatePut", named := ["loop.example/corbel/impl.order"], plainKeys := false, apart := false, laid := [("loop.example/corbel/impl.order", laid_loop_example_corbel_impl_order)], narrowed := true }
def FnExactFlatePutUptoSaid : Prop := fnExactFlatePutUptoRow.holds Tryd.pinned (OpenSpec.upto fnExactFlatePutSpec)

/-- 'laws.FnFlateShort', WHERE WHAT IT READS IS OF BULK AT MOST 1048576: true; the input reads as it did. -/
def fnFlateShortUptoRow : OpenClaim := { program := "ytncidljdfipigaadoor", sum := "6433ae8930663e9b586dbcfc7fb568aabe48a8eaff555792d5d7a9585510aad5", func := "loop.example/corbel/laws.FnFlateShort", spec := "fnFlateShort", named := ["loop.example/corbel/impl.order"], plainKeys := false, apart := false, laid := [("loop.example/corbel/impl.order", laid_loop_example_corbel_impl_order)], narrowed := true }
def FnFlateShortUptoSaid : Prop := fnFlateShortUptoRow.holds Tryd.pinned (OpenSpec.upto fnFlateShortSpec)

/-- 'laws.FnOwn', WHERE WHAT IT READS IS OF BULK AT MOST 1048576: true; the input reads as it did. -/
def fnOwnUptoRow : OpenClaim := { program := "ytncidljdfipigaadoor", sum := "6433ae8930663e9b586dbcfc7fb568aabe48a8eaff555792d5d7a9585510aad5", func := "loop.example/corbel/laws.FnOwn", spec := "fnOwn", named := ["loop.example/corbel/impl.order"], plainKeys := false, apart := false, laid := [("loop.example/corbel/impl.order", laid_loop_example_corbel_impl_order)], narrowed := true }
def FnOwnUptoSaid : Prop := fnOwnUptoRow.holds Tryd.pinned (OpenSpec.upto fnOwnSpec)

/-- 'laws.FnFlateMany', WHERE WHAT IT READS IS OF BULK AT MOST 1048576: true; the input reads as it did. -/
def fnFlateManyUptoRow : OpenClaim := { program := "ytncidljdfipigaadoor", sum := "6433ae8930663e9b586dbcfc7fb568aabe48a8eaff555792d5d7a9585510aad5", func := "loop.example/corbel/laws.FnFlateMany", spec := "fnFlateMany", named := ["loop.example/corbel/impl.order"], plainKeys := false, apart := false, laid := [("loop.example/corbel/impl.order", laid_loop_example_corbel_impl_order)], narrowed := true }
def FnFlateManyUptoSaid : Prop := fnFlateManyUptoRow.holds Tryd.pinned (OpenSpec.upto fnFlateManySpec)

/-- 'laws.FnFlateGet', WHERE WHAT IT READS IS OF BULK AT MOST 1048576: true; the input reads as it did. -/
def fnFlateGetUptoRow : OpenClaim := { program := "ytncidljdfipigaadoor", sum := "6433ae8930663e9b586dbcfc7fb568aabe48a8eaff555792d5d7a9585510aad5", func := "loop.example/corbel/laws.FnFlateGet", spec := "fnFlateGet", named := ["loop.example/corbel/impl.order"], plainKeys := false, apart := false, laid := [("loop.example/corbel/impl.order", laid_loop_example_corbel_impl_order)], narrowed := true }
def FnFlateGetUptoSaid : Prop := fnFlateGetUptoRow.holds Tryd.pinned (OpenSpec.upto fnFlateGetSpec)

/-- 'laws.FnFlate', WHERE WHAT IT READS IS OF BULK AT MOST 1048576: true; the input reads as it did. -/
def fnFlateUptoRow : OpenClaim := { program := "ytncidljdfipigaadoor", sum := "6433ae8930663e9b586dbcfc7fb568aabe48a8eaff555792d5d7a9585510aad5", func := "loop.example/corbel/laws.FnFlate", spec := "fnFlate", named := ["loop.example/corbel/impl.order"], plainKeys := false, apart := false, laid := [("loop.example/corbel/impl.order", laid_loop_example_corbel_impl_order)], narrowed := true }
def FnFlateUptoSaid : Prop := fnFlateUptoRow.holds Tryd.pinned (OpenSpec.upto fnFlateSpec)

/-- 'laws.FnFlateTwo', WHERE WHAT IT READS IS OF BULK AT MOST 1048576: true; the input reads as it did. -/
def fnFlateTwoUptoRow : OpenClaim := { program := "ytncidljdfipigaadoor", sum := "6433ae8930663e9b586dbcfc7fb568aabe48a8eaff555792d5d7a9585510aad5", func := "loop.example/corbel/laws.FnFlateTwo", spec := "fnFlateTwo", named := ["loop.example/corbel/impl.order"], plainKeys := false, apart := false, laid := [("loop.example/corbel/impl.order", laid_loop_example_corbel_impl_order)], narrowed := true }
def FnFlateTwoUptoSaid : Prop := fnFlateTwoUptoRow.holds Tryd.pinned (OpenSpec.upto fnFlateTwoSpec)

/-- 'laws.FnFlateBad', WHERE WHAT IT READS IS OF BULK AT MOST 1048576: true; the input reads as it did. -/
def fnFlateBadUptoRow : OpenClaim := { program := "ytncidljdfipigaadoor", sum := "6433ae8930663e9b586dbcfc7fb568aabe48a8eaff555792d5d7a9585510aad5", func := "loop.example/corbel/laws.FnFlateBad", spec := "fnFlateBad", named := ["loop.example/corbel/impl.order"], plainKeys := false, apart := false, laid := [("loop.example/corbel/impl.order", laid_loop_example_corbel_impl_order)], narrowed := true }
def FnFlateBadUptoSaid : Prop := fnFlateBadUptoRow.holds Tryd.pinned (OpenSpec.upto fnFlateBadSpec)

/-- 'laws.FnFlateKinds', WHERE WHAT IT READS IS OF BULK AT MOST 1048576: true; the input reads as it did. -/
def fnFlateKindsUptoRow : OpenClaim := { program := "ytncidljdfipigaadoor", sum := "6433ae8930663e9b586dbcfc7fb568aabe48a8eaff555792d5d7a9585510aad5", func := "loop.example/corbel/laws.FnFlateKinds", spec := "fnFlateKinds", named := ["loop.example/corbel/impl.order"], plainKeys := false, apart := false, laid := [("loop.example/corbel/impl.order", laid_loop_example_corbel_impl_order)], narrowed := true }
def FnFlateKindsUptoSaid : Prop := fnFlateKindsUptoRow.holds Tryd.pinned (OpenSpec.upto fnFlateKindsSpec)

/-- 'laws.FnExactLocalGet', WHERE WHAT IT READS IS OF BULK AT MOST 1048576: true; the input reads as it did. -/
def fnExactLocalGetUptoRow : OpenClaim := { program := "ytncidljdfipigaadoor", sum := "6433ae8930663e9b586dbcfc7fb568aabe48a8eaff555792d5d7a9585510aad5", func := "loop.example/corbel/laws.FnExactLocalGet", spec := "fnExactLocalGet", inPlace := ["internal/bytealg.CountString", "internal/bytealg.IndexByteString", "internal/bytealg.IndexString"], named := ["loop.example/corbel/impl.order", "unicode/utf8.first", "unicode/utf8.acceptRanges", "internal/bytealg.MaxLen"], plainKeys := false, apart := false, laid := [("unicode/utf8.acceptRanges", laid_unicode_utf8_acceptRanges), ("loop.example/corbel/impl.order", laid_loop_example_corbel_impl_order), ("unicode/utf8.first", laid_unicode_utf8_first)], narrowed := true }
def FnExactLocalGetUptoSaid : Prop := fnExactLocalGetUptoRow.holds Tryd.pinned (OpenSpec.upto fnExactLocalGetSpec)

/-- 'laws.FnExactLocalPut', WHERE WHAT IT READS IS OF BULK AT MOST 1048576: true; the input reads as it did. -/
def fnExactLocalPutUptoRow : OpenClaim := { program := "ytncidljdfipigaadoor", sum := "6433ae8930663e9b586dbcfc7fb568aabe48a8eaff555792d5d7a9585510aad5", func := "loop.example/corbel/laws.FnExactLocalPut", spec := "fnExactLocalPut", inPlace := ["internal/bytealg.CountString", "internal/bytealg.IndexByteString", "internal/bytealg.IndexString"], named := ["unicode/utf8.first", "unicode/utf8.acceptRanges", "internal/bytealg.MaxLen", "loop.example/corbel/impl.order"], plainKeys := false, apart := false, laid := [("unicode/utf8.acceptRanges", laid_unicode_utf8_acceptRanges), ("loop.example/corbel/impl.order", laid_loop_example_corbel_impl_order), ("unicode/utf8.first", laid_unicode_utf8_first)], narrowed := true }
def FnExactLocalPutUptoSaid : Prop := fnExactLocalPutUptoRow.holds Tryd.pinned (OpenSpec.upto fnExactLocalPutSpec)

end Rows
end Go.Proofs.YtncidljdfipigaaDoor
