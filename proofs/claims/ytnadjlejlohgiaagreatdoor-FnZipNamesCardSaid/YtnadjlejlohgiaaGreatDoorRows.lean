/-
  NARROWER THAN 'FOR EVERY INPUT', by the rows' own cells (each row's printed sentence says how): FnExactZipGet: laid · FnZipFind: laid · FnZipNames: laid · FnLocalShort: laid · FnExactZipFind: laid · FnExactZipNames: laid.
  DERIVED. THE GIVEN ROWS OF THIS SEAT. 6 by the template 'for every input the law returns true; each argument reads behind the call as it read before'; 0 by the template 'total and deterministic' (their statements: YtnadjlejlohgiaaGreatDoorTotals.lean).
  GIVEN WITH THE SEED: the statements are not yours to turn. If you find one false, say at which input.
  Laid BY PROGRAM, IN A SANDBOX (cutbox-rows.mjs): the forced cells as the released guide's own fill.sh prints them over the translation 20fc717ce7920be6… (all of the seat's roots in one cut). By AI agents, Wed Nov 11 2026. No macro, syntax, notation, axiom, sorry.
-/
import Derived.Test.YtnadjlejlohgiaaGreatDoorChecked
import GoSem.PinnedTables
import GoSem.Claim
import GoSem.ClaimJoined
import GoSem.ClaimMapViews
import Derived.JoinedTies
import Derived.KernelRfl
namespace Go.Proofs.YtnadjlejlohgiaaGreatDoor
/- THE CELL 'sum', in the pinned program and in every row, IS THE sha256 OF THE DUMP (.gsa) THAT YtnadjlejlohgiaaGreatDoorProg.lean LOADS. Nothing in Lean hashes anything: it is a label: what it is worth is what the hold of that sum in a sandbox is worth. -/
noncomputable def Tryz.pinned : Pinned := { name := "ytnadjlejlohgiaagreatdoor", sum := "20fc717ce7920be690ae1343e57366fd7fbb7fe07be3d7b7a123c6581fb910b8", checked := Tryz.checked }
namespace Rows
def none {H : Type} : Left H := { results := [], args := [] }

/- WHAT THE LISTED PACKAGE-LEVEL VARIABLES READ AS WHEN THE CALL BEGINS. Each datum BY PROGRAM (the guide's laid-datum.mjs) off the statement by which the dump's own 'gosem.cut.vars' lays the variable. In a bare row this is a premise. The card (YtnadjlejlohgiaaGreatDoorCards.lean) ties it to the program's text. -/
def laid_unicode_utf8_acceptRanges {H : Type} : DataW H := .agg [.agg [.lit (.int .u8 128), .lit (.int .u8 191)], .agg [.lit (.int .u8 160), .lit (.int .u8 191)], .agg [.lit (.int .u8 128), .lit (.int .u8 159)], .agg [.lit (.int .u8 144), .lit (.int .u8 191)], .agg [.lit (.int .u8 128), .lit (.int .u8 143)], .agg [.lit (.int .u8 0), .lit (.int .u8 0)], .agg [.lit (.int .u8 0), .lit (.int .u8 0)], .agg [.lit (.int .u8 0), .lit (.int .u8 0)], .agg [.lit (.int .u8 0), .lit (.int .u8 0)], .agg [.lit (.int .u8 0), .lit (.int .u8 0)], .agg [.lit (.int .u8 0), .lit (.int .u8 0)], .agg [.lit (.int .u8 0), .lit (.int .u8 0)], .agg [.lit (.int .u8 0), .lit (.int .u8 0)], .agg [.lit (.int .u8 0), .lit (.int .u8 0)], .agg [.lit (.int .u8 0), .lit (.int .u8 0)], .agg [.lit (.int .u8 0), .lit (.int .u8 0)]]
def laid_loop_example_corbel_impl_order {H : Type} : DataW H := .slice [.lit (.int .i64 16), .lit (.int .i64 17), .lit (.int .i64 18), .lit (.int .i64 0), .lit (.int .i64 8), .lit (.int .i64 7), .lit (.int .i64 9), .lit (.int .i64 6), .lit (.int .i64 10), .lit (.int .i64 5), .lit (.int .i64 11), .lit (.int .i64 4), .lit (.int .i64 12), .lit (.int .i64 3), .lit (.int .i64 13), .lit (.int .i64 2), .lit (.int .i64 14), .lit (.int .i64 1), .lit (.int .i64 15)] []
/-- One of Go's own tables, pinned by name: the form's constant. -/
def laid_unicode_utf8_first : DataW Unit := Go.Pinned.utf8First

/-- 'laws.FnExactZipGet': WHATEVER THE INPUT: true; the input reads as it did. -/
def fnExactZipGetSpec : ChangeSpec := { name := "fnExactZipGet", vars := ["loop.example/corbel/impl.order"], fn := fun _ => fun
  | [d, g1] => { results := [.lit (.bool true)], args := [d], vars := [g1] }
  | _ => none }
def fnExactZipGetRow : OpenClaim := { program := "ytnadjlejlohgiaagreatdoor", sum := "20fc717ce7920be690ae1343e57366fd7fbb7fe07be3d7b7a123c6581fb910b8", func := "loop.example/corbel/laws.FnExactZipGet", spec := "fnExactZipGet", inPlace := ["internal/bytealg.CountString", "internal/bytealg.IndexByteString", "internal/bytealg.IndexString"], named := ["loop.example/corbel/impl.order", "unicode/utf8.first", "unicode/utf8.acceptRanges", "internal/bytealg.MaxLen"], plainKeys := false, apart := false, laid := [("unicode/utf8.acceptRanges", laid_unicode_utf8_acceptRanges), ("loop.example/corbel/impl.order", laid_loop_example_corbel_impl_order), ("unicode/utf8.first", laid_unicode_utf8_first)] }
def FnExactZipGetSaid : Prop := fnExactZipGetRow.holds Tryz.pinned (OpenSpec.ofChange fnExactZipGetSpec)

/-- ITS FALSE NEIGHBOUR: 'it returns false'. Refute it at one input. -/
def fnExactZipGetWrong : ChangeSpec := { name := "fnExactZipGet", vars := ["loop.example/corbel/impl.order"], fn := fun _ => fun
  | [d, g1] => { results := [.lit (.bool false)], args := [d], vars := [g1] }
  | _ => none }
def FnExactZipGetWrongFalsely : Prop := fnExactZipGetRow.holds Tryz.pinned (OpenSpec.ofChange fnExactZipGetWrong)

/-- 'laws.FnZipFind': WHATEVER THE INPUT: true; the input reads as it did. -/
def fnZipFindSpec : ChangeSpec := { name := "fnZipFind", vars := ["loop.example/corbel/impl.order"], fn := fun _ => fun
  | [d, g1] => { results := [.lit (.bool true)], args := [d], vars := [g1] }
  | _ => none }
def fnZipFindRow : OpenClaim := { program := "ytnadjlejlohgiaagreatdoor", sum := "20fc717ce7920be690ae1343e57366fd7fbb7fe07be3d7b7a123c6581fb910b8", func := "loop.example/corbel/laws.FnZipFind", spec := "fnZipFind", inPlace := ["internal/bytealg.CountString", "internal/bytealg.IndexByteString", "internal/bytealg.IndexString"], recurses := true, named := ["loop.example/corbel/impl.order", "unicode/utf8.first", "unicode/utf8.acceptRanges", "internal/bytealg.MaxLen"], plainKeys := false, apart := false, laid := [("unicode/utf8.acceptRanges", laid_unicode_utf8_acceptRanges), ("loop.example/corbel/impl.order", laid_loop_example_corbel_impl_order), ("unicode/utf8.first", laid_unicode_utf8_first)] }
def FnZipFindSaid : Prop := fnZipFindRow.holds Tryz.pinned (OpenSpec.ofChange fnZipFindSpec)

/-- ITS FALSE NEIGHBOUR: 'it returns false'. Refute it at one input. -/
def fnZipFindWrong : ChangeSpec := { name := "fnZipFind", vars := ["loop.example/corbel/impl.order"], fn := fun _ => fun
  | [d, g1] => { results := [.lit (.bool false)], args := [d], vars := [g1] }
  | _ => none }
def FnZipFindWrongFalsely : Prop := fnZipFindRow.holds Tryz.pinned (OpenSpec.ofChange fnZipFindWrong)

/-- 'laws.FnZipNames': WHATEVER THE INPUT: true; the input reads as it did. -/
def fnZipNamesSpec : ChangeSpec := { name := "fnZipNames", vars := ["loop.example/corbel/impl.order"], fn := fun _ => fun
  | [d, g1] => { results := [.lit (.bool true)], args := [d], vars := [g1] }
  | _ => none }
def fnZipNamesRow : OpenClaim := { program := "ytnadjlejlohgiaagreatdoor", sum := "20fc717ce7920be690ae1343e57366fd7fbb7fe07be3d7b7a123c6581fb910b8", func := "loop.example/corbel/laws.FnZipNames", spec := "fnZipNames", inPlace := ["internal/bytealg.CountString", "internal/bytealg.IndexByteString", "internal/bytealg.IndexString"], recurses := true, named := ["loop.example/corbel/impl.order", "unicode/utf8.first", "unicode/utf8.acceptRanges", "internal/bytealg.MaxLen"], plainKeys := false, apart := false, laid := [("unicode/utf8.acceptRanges", laid_unicode_utf8_acceptRanges), ("loop.example/corbel/impl.order", laid_loop_example_corbel_impl_order), ("unicode/utf8.first", laid_unicode_utf8_first)] }
def FnZipNamesSaid : Prop := fnZipNamesRow.holds Tryz.pinned (OpenSpec.ofChange fnZipNamesSpec)

/-- ITS FALSE NEIGHBOUR: 'it returns false'. Refute it at one input. -/
def fnZipNamesWrong : ChangeSpec := { name := "fnZipNames", vars := ["loop.example/corbel/impl.order"], fn := fun _ => fun
  | [d, g1] => { results := [.lit (.bool false)], args := [d], vars := [g1] }
  | _ => none }
def FnZipNamesWrongFalsely : Prop := fnZipNamesRow.holds Tryz.pinned (OpenSpec.ofChange fnZipNamesWrong)

/-- 'laws.FnLocalShort': WHATEVER THE INPUT: true; the input reads as it did. -/
def fnLocalShortSpec : ChangeSpec := { name := "fnLocalShort", vars := ["loop.example/corbel/impl.order"], fn := fun _ => fun
  | [d, g1] => { results := [.lit (.bool true)], args := [d], vars := [g1] }
  | _ => none }
def fnLocalShortRow : OpenClaim := { program := "ytnadjlejlohgiaagreatdoor", sum := "20fc717ce7920be690ae1343e57366fd7fbb7fe07be3d7b7a123c6581fb910b8", func := "loop.example/corbel/laws.FnLocalShort", spec := "fnLocalShort", inPlace := ["internal/bytealg.CountString", "internal/bytealg.IndexByteString", "internal/bytealg.IndexString"], named := ["unicode/utf8.first", "unicode/utf8.acceptRanges", "internal/bytealg.MaxLen", "loop.example/corbel/impl.order"], plainKeys := false, apart := false, laid := [("unicode/utf8.acceptRanges", laid_unicode_utf8_acceptRanges), ("loop.example/corbel/impl.order", laid_loop_example_corbel_impl_order), ("unicode/utf8.first", laid_unicode_utf8_first)] }
def FnLocalShortSaid : Prop := fnLocalShortRow.holds Tryz.pinned (OpenSpec.ofChange fnLocalShortSpec)

/-- ITS FALSE NEIGHBOUR: 'it returns false'. Refute it at one input. -/
def fnLocalShortWrong : ChangeSpec := { name := "fnLocalShort", vars := ["loop.example/corbel/impl.order"], fn := fun _ => fun
  | [d, g1] => { results := [.lit (.bool false)], args := [d], vars := [g1] }
  | _ => none }
def FnLocalShortWrongFalsely : Prop := fnLocalShortRow.holds Tryz.pinned (OpenSpec.ofChange fnLocalShortWrong)

/-- 'laws.FnExactZipFind': WHATEVER THE INPUT: true; the input reads as it did. -/
def fnExactZipFindSpec : ChangeSpec := { name := "fnExactZipFind", vars := ["loop.example/corbel/impl.order"], fn := fun _ => fun
  | [d1, d2, g1] => { results := [.lit (.bool true)], args := [d1, d2], vars := [g1] }
  | _ => none }
def fnExactZipFindRow : OpenClaim := { program := "ytnadjlejlohgiaagreatdoor", sum := "20fc717ce7920be690ae1343e57366fd7fbb7fe07be3d7b7a123c6581fb910b8", func := "loop.example/corbel/laws.FnExactZipFind", spec := "fnExactZipFind", inPlace := ["internal/bytealg.CountString", "internal/bytealg.IndexByteString", "internal/bytealg.IndexString"], named := ["loop.example/corbel/impl.order", "unicode/utf8.first", "unicode/utf8.acceptRanges", "internal/bytealg.MaxLen"], plainKeys := false, apart := false, laid := [("unicode/utf8.acceptRanges", laid_unicode_utf8_acceptRanges), ("loop.example/corbel/impl.order", laid_loop_example_corbel_impl_order), ("unicode/utf8.first", laid_unicode_utf8_first)] }
def FnExactZipFindSaid : Prop := fnExactZipFindRow.holds Tryz.pinned (OpenSpec.ofChange fnExactZipFindSpec)

/-- ITS FALSE NEIGHBOUR: 'it returns false'. Refute it at one input. -/
def fnExactZipFindWrong : ChangeSpec := { name := "fnExactZipFind", vars := ["loop.example/corbel/impl.order"], fn := fun _ => fun
  | [d1, d2, g1] => { results := [.lit (.bool false)], args := [d1, d2], vars := [g1] }
  | _ => none }
def FnExactZipFindWrongFalsely : Prop := fnExactZipFindRow.holds Tryz.pinned (OpenSpec.ofChange fnExactZipFindWrong)

/-- 'laws.FnExactZipNames': WHATEVER THE INPUT: true; the input reads as it did. -/
def fnExactZipNamesSpec : ChangeSpec := { name := "fnExactZipNames", vars := ["loop.example/corbel/impl.order"], fn := fun _ => fun
  | [d, g1] => { results := [.lit (.bool true)], args := [d], vars := [g1] }
  | _ => none }
def fnExactZipNamesRow : OpenClaim := { program := "ytnadjlejlohgiaagreatdoor", sum := "20fc717ce7920be690ae1343e57366fd7fbb7fe07be3d7b7a123c6581fb910b8", func := "loop.example/corbel/laws.FnExactZipNames", spec := "fnExactZipNames", inPlace := ["internal/bytealg.CountString", "internal/bytealg.IndexByteString", "internal/bytealg.IndexString"], named := ["loop.example/corbel/impl.order", "unicode/utf8.first", "unicode/utf8.acceptRanges", "internal/bytealg.MaxLen"], plainKeys := false, apart := false, laid := [("unicode/utf8.acceptRanges", laid_unicode_utf8_acceptRanges), ("loop.example/corbel/impl.order", laid_loop_example_corbel_impl_order), ("unicode/utf8.first", laid_unicode_utf8_first)] }
def FnExactZipNamesSaid : Prop := fnExactZipNamesRow.holds Tryz.pinned (OpenSpec.ofChange fnExactZipNamesSpec)

/-- ITS FALSE NEIGHBOUR: 'it returns false'. Refute it at one input. -/
def fnExactZipNamesWrong : ChangeSpec := { name := "fnExactZipNames", vars := ["loop.example/corbel/impl.order"], fn := fun _ => fun
  | [d, g1] => { results := [.lit (.bool false)], args := [d], vars := [g1] }
  | _ => none }
def FnExactZipNamesWrongFalsely : Prop := fnExactZipNamesRow.holds Tryz.pinned (OpenSpec.ofChange fnExactZipNamesWrong)

/- THE SECOND FORM. 'bulk': how many values and letters a reading holds, each counted each time it is reached (what is shared counts as often as it is met; a slice's spare places count too). A statement '..UptoSaid' is the law's where the arguments, and the package variables that the reading takes, are together of bulk at most 1048576: NARROWER than '..Said'. Prove '..Said' where nothing that the law and all that it calls make is longer than what came in: it says more and counts as full. Else prove '..UptoSaid'. A law counts once. -/
mutual
def uptoBulk {H : Type} : DataW H → Nat
  | .lit (.string bytes) => bytes.length + 1
  | .lit _ => 1
  | .nil => 1
  | .ptr d => uptoBulk d + 1
  | .slice elems spare => uptoBulkAll elems + uptoBulkAll spare + 1
  | .agg parts => uptoBulkAll parts + 1
  | .iface _ d => uptoBulk d + 1
  | .map entries => uptoBulkEntries entries + 1
  | .held _ => 1
def uptoBulkAll {H : Type} : List (DataW H) → Nat
  | [] => 0
  | d :: r => uptoBulk d + uptoBulkAll r
def uptoBulkEntries {H : Type} : List (Lit × DataW H) → Nat
  | [] => 0
  | x :: r => uptoBulkEntry x + uptoBulkEntries r
def uptoBulkEntry {H : Type} : Lit × DataW H → Nat
  | (.string bytes, d) => bytes.length + uptoBulk d + 1
  | (_, d) => uptoBulk d + 1
 end
def uptoSmall : (H : Type) → List (DataW H) → Bool := fun _ ds => decide (uptoBulkAll ds ≤ 1048576)
def OpenSpec.upto (s : _root_.Go.ChangeSpec) : _root_.Go.OpenSpec := { _root_.Go.OpenSpec.ofChange s with cond := some uptoSmall }

/-- 'laws.FnExactZipGet', WHERE WHAT IT READS IS OF BULK AT MOST 1048576: true; the input reads as it did. -/
def fnExactZipGetUptoRow : OpenClaim := { program := "ytnadjlejlohgiaagreatdoor", sum := "20fc717ce7920be690ae1343e57366fd7fbb7fe07be3d7b7a123c6581fb910b8", func := "loop.example/corbel/laws.FnExactZipGet", spec := "fnExactZipGet", inPlace := ["internal/bytealg.CountString", "internal/bytealg.IndexByteString", "internal/bytealg.IndexString"], named := ["loop.example/corbel/impl.order", "unicode/utf8.first", "unicode/utf8.acceptRanges", "internal/bytealg.MaxLen"], plainKeys := false, apart := false, laid := [("unicode/utf8.acceptRanges", laid_unicode_utf8_acceptRanges), ("loop.example/corbel/impl.order", laid_loop_example_corbel_impl_order), ("unicode/utf8.first", laid_unicode_utf8_first)], narrowed := true }
def FnExactZipGetUptoSaid : Prop := fnExactZipGetUptoRow.holds Tryz.pinned (OpenSpec.upto fnExactZipGetSpec)

/-- 'laws.FnZipFind', WHERE WHAT IT READS IS OF BULK AT MOST 1048576: true; the input reads as it did. -/
def fnZipFindUptoRow : OpenClaim := { program := "ytnadjlejlohgiaagreatdoor", sum := "20fc717ce7920be690ae1343e57366fd7fbb7fe07be3d7b7a123c6581fb910b8", func := "loop.example/corbel/laws.FnZipFind", spec := "fnZipFind", inPlace := ["internal/bytealg.CountString", "internal/bytealg.IndexByteString", "internal/bytealg.IndexString"], recurses := true, named := ["loop.example/corbel/impl.order", "unicode/utf8.first", "unicode/utf8.acceptRanges", "internal/bytealg.MaxLen"], plainKeys := false, apart := false, laid := [("unicode/utf8.acceptRanges", laid_unicode_utf8_acceptRanges), ("loop.example/corbel/impl.order", laid_loop_example_corbel_impl_order), ("unicode/utf8.first", laid_unicode_utf8_first)], narrowed := true }
def FnZipFindUptoSaid : Prop := fnZipFindUptoRow.holds Tryz.pinned (OpenSpec.upto fnZipFindSpec)

/-- 'laws.FnZipNames', WHERE WHAT IT READS IS OF BULK AT MOST 1048576: true; the input reads as it did. -/
def fnZipNamesUptoRow : OpenClaim := { program := "ytnadjlejlohgiaagreatdoor", sum := "20fc717ce7920be690ae1343e57366fd7fbb7fe07be3d7b7a123c6581fb910b8", func := "loop.example/corbel/laws.FnZipNames", spec := "fnZipNames", inPlace := ["internal/bytealg.CountString", "internal/bytealg.IndexByteString", "internal/bytealg.IndexString"], recurses := true, named := ["loop.example/corbel/impl.order", "unicode/utf8.first", "unicode/utf8.acceptRanges", "internal/bytealg.MaxLen"], plainKeys := false, apart := false, laid := [("unicode/utf8.acceptRanges", laid_unicode_utf8_acceptRanges), ("loop.example/corbel/impl.order", laid_loop_example_corbel_impl_order), ("unicode/utf8.first", laid_unicode_utf8_first)], narrowed := true }
def FnZipNamesUptoSaid : Prop := fnZipNamesUptoRow.holds Tryz.pinned (OpenSpec.upto fnZipNamesSpec)

/-- 'laws.FnLocalShort', WHERE WHAT IT READS IS OF BULK AT MOST 1048576: true; the input reads as it did. -/
def fnLocalShortUptoRow : OpenClaim := { program := "ytnadjlejlohgiaagreatdoor", sum := "20fc717ce7920be690ae1343e57366fd7fbb7fe07be3d7b7a123c6581fb910b8", func := "loop.example/corbel/laws.FnLocalShort", spec := "fnLocalShort", inPlace := ["internal/bytealg.CountString", "internal/bytealg.IndexByteString", "internal/bytealg.IndexString"], named := ["unicode/utf8.first", "unicode/utf8.acceptRanges", "internal/bytealg.MaxLen", "loop.example/corbel/impl.order"], plainKeys := false, apart := false, laid := [("unicode/utf8.acceptRanges", laid_unicode_utf8_acceptRanges), ("loop.example/corbel/impl.order", laid_loop_example_corbel_impl_order), ("unicode/utf8.first", laid_unicode_utf8_first)], narrowed := true }
def FnLocalShortUptoSaid : Prop := fnLocalShortUptoRow.holds Tryz.pinned (OpenSpec.upto fnLocalShortSpec)

/-- 'laws.FnExactZipFind', WHERE WHAT IT READS IS OF BULK AT MOST 1048576: true; the input reads as it did. -/
def fnExactZipFindUptoRow : OpenClaim := { program := "ytnadjlejlohgiaagreatdoor", sum := "20fc717ce7920be690ae1343e57366fd7fbb7fe07be3d7b7a123c6581fb910b8", func := "loop.example/corbel/laws.FnExactZipFind", spec := "fnExactZipFind", inPlace := ["internal/bytealg.CountString", "internal/bytealg.IndexByteString", "internal/bytealg.IndexString"], named := ["loop.example/corbel/impl.order", "unicode/utf8.first", "unicode/utf8.acceptRanges", "internal/bytealg.MaxLen"], plainKeys := false, apart := false, laid := [("unicode/utf8.acceptRanges", laid_unicode_utf8_acceptRanges), ("loop.example/corbel/impl.order", laid_loop_example_corbel_impl_order), ("unicode/utf8.first", laid_unicode_utf8_first)], narrowed := true }
def FnExactZipFindUptoSaid : Prop := fnExactZipFindUptoRow.holds Tryz.pinned (OpenSpec.upto fnExactZipFindSpec)

/-- 'laws.FnExactZipNames', WHERE WHAT IT READS IS OF BULK AT MOST 1048576: true; the input reads as it did. -/
def fnExactZipNamesUptoRow : OpenClaim := { program := "ytnadjlejlohgiaagreatdoor", sum := "20fc717ce7920be690ae1343e57366fd7fbb7fe07be3d7b7a123c6581fb910b8", func := "loop.example/corbel/laws.FnExactZipNames", spec := "fnExactZipNames", inPlace := ["internal/bytealg.CountString", "internal/bytealg.IndexByteString", "internal/bytealg.IndexString"], named := ["loop.example/corbel/impl.order", "unicode/utf8.first", "unicode/utf8.acceptRanges", "internal/bytealg.MaxLen"], plainKeys := false, apart := false, laid := [("unicode/utf8.acceptRanges", laid_unicode_utf8_acceptRanges), ("loop.example/corbel/impl.order", laid_loop_example_corbel_impl_order), ("unicode/utf8.first", laid_unicode_utf8_first)], narrowed := true }
def FnExactZipNamesUptoSaid : Prop := fnExactZipNamesUptoRow.holds Tryz.pinned (OpenSpec.upto fnExactZipNamesSpec)

end Rows
end Go.Proofs.YtnadjlejlohgiaaGreatDoor
