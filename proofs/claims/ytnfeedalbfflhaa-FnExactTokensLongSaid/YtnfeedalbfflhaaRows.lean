/-
  No cell of these rows narrows 'for every input' (looked for: loops, veiled, ifaces, maps, wideKeys, modest, calm, conditions, laid).
  DERIVED. THE GIVEN ROWS OF THIS SEAT. 11 by the template 'for every input the law returns true; each argument reads behind the call as it read before'; 0 by the template 'total and deterministic' (their statements: YtnfeedalbfflhaaTotals.lean).
  GIVEN WITH THE SEED: the statements are not yours to turn. If you find one false, say at which input.
  Laid BY PROGRAM, IN A SANDBOX (cutbox-rows.mjs): the forced cells as the released guide's own fill.sh prints them over the translation cb5946a6dc852f26… (all of the seat's roots in one cut). By AI agents, Wed Nov 11 2026. No macro, syntax, notation, axiom, sorry.
-/
import Derived.Test.YtnfeedalbfflhaaChecked
import GoSem.Claim
import GoSem.ClaimJoined
import GoSem.ClaimMapViews
import Derived.JoinedTies
import Derived.KernelRfl
namespace Go.Proofs.Ytnfeedalbfflhaa
/- THE CELL 'sum', in the pinned program and in every row, IS THE sha256 OF THE DUMP (.gsa) THAT YtnfeedalbfflhaaProg.lean LOADS. Nothing in Lean hashes anything: it is a label: what it is worth is what the hold of that sum in a sandbox is worth. -/
noncomputable def Try.pinned : Pinned := { name := "ytnfeedalbfflhaa", sum := "cb5946a6dc852f2682415c0e2ee28f9be100f19c65c2607ecb184f8ccbb00e03", checked := Try.checked }
namespace Rows
def none {H : Type} : Left H := { results := [], args := [] }

/-- 'laws.FnTokensAll': WHATEVER THE INPUT: true; the input reads as it did. -/
def fnTokensAllSpec : ChangeSpec := { name := "fnTokensAll", fn := fun _ => fun
  | [d] => { results := [.lit (.bool true)], args := [d] }
  | _ => none }
def fnTokensAllRow : OpenClaim := { program := "ytnfeedalbfflhaa", sum := "cb5946a6dc852f2682415c0e2ee28f9be100f19c65c2607ecb184f8ccbb00e03", func := "loop.example/corbel/laws.FnTokensAll", spec := "fnTokensAll", apart := false }
def FnTokensAllSaid : Prop := fnTokensAllRow.holds Try.pinned (OpenSpec.ofChange fnTokensAllSpec)

/-- ITS FALSE NEIGHBOUR: 'it returns false'. Refute it at one input. -/
def fnTokensAllWrong : ChangeSpec := { name := "fnTokensAll", fn := fun _ => fun
  | [d] => { results := [.lit (.bool false)], args := [d] }
  | _ => none }
def FnTokensAllWrongFalsely : Prop := fnTokensAllRow.holds Try.pinned (OpenSpec.ofChange fnTokensAllWrong)

/-- 'laws.FnExactTokensOk': WHATEVER THE INPUT: true; the input reads as it did. -/
def fnExactTokensOkSpec : ChangeSpec := { name := "fnExactTokensOk", fn := fun _ => fun
  | [d] => { results := [.lit (.bool true)], args := [d] }
  | _ => none }
def fnExactTokensOkRow : OpenClaim := { program := "ytnfeedalbfflhaa", sum := "cb5946a6dc852f2682415c0e2ee28f9be100f19c65c2607ecb184f8ccbb00e03", func := "loop.example/corbel/laws.FnExactTokensOk", spec := "fnExactTokensOk", apart := false }
def FnExactTokensOkSaid : Prop := fnExactTokensOkRow.holds Try.pinned (OpenSpec.ofChange fnExactTokensOkSpec)

/-- ITS FALSE NEIGHBOUR: 'it returns false'. Refute it at one input. -/
def fnExactTokensOkWrong : ChangeSpec := { name := "fnExactTokensOk", fn := fun _ => fun
  | [d] => { results := [.lit (.bool false)], args := [d] }
  | _ => none }
def FnExactTokensOkWrongFalsely : Prop := fnExactTokensOkRow.holds Try.pinned (OpenSpec.ofChange fnExactTokensOkWrong)

/-- 'laws.FnExactTokensOf': WHATEVER THE INPUT: true; the input reads as it did. -/
def fnExactTokensOfSpec : ChangeSpec := { name := "fnExactTokensOf", fn := fun _ => fun
  | [d] => { results := [.lit (.bool true)], args := [d] }
  | _ => none }
def fnExactTokensOfRow : OpenClaim := { program := "ytnfeedalbfflhaa", sum := "cb5946a6dc852f2682415c0e2ee28f9be100f19c65c2607ecb184f8ccbb00e03", func := "loop.example/corbel/laws.FnExactTokensOf", spec := "fnExactTokensOf", apart := false }
def FnExactTokensOfSaid : Prop := fnExactTokensOfRow.holds Try.pinned (OpenSpec.ofChange fnExactTokensOfSpec)

/-- ITS FALSE NEIGHBOUR: 'it returns false'. Refute it at one input. -/
def fnExactTokensOfWrong : ChangeSpec := { name := "fnExactTokensOf", fn := fun _ => fun
  | [d] => { results := [.lit (.bool false)], args := [d] }
  | _ => none }
def FnExactTokensOfWrongFalsely : Prop := fnExactTokensOfRow.holds Try.pinned (OpenSpec.ofChange fnExactTokensOfWrong)

/-- 'laws.FnExactTokensLong': WHATEVER THE INPUT: true; the input reads as it did. -/
def fnExactTokensLongSpec : ChangeSpec := { name := "fnExactTokensLong", fn := fun _ => fun
  | [d] => { results := [.lit (.bool true)], args := [d] }
  | _ => none }
def fnExactTokensLongRow : OpenClaim := { program := "ytnfeedalbfflhaa", sum := "cb5946a6dc852f2682415c0e2ee28f9be100f19c65c2607ecb184f8ccbb00e03", func := "loop.example/corbel/laws.FnExactTokensLong", spec := "fnExactTokensLong", apart := false }
def FnExactTokensLongSaid : Prop := fnExactTokensLongRow.holds Try.pinned (OpenSpec.ofChange fnExactTokensLongSpec)

/-- ITS FALSE NEIGHBOUR: 'it returns false'. Refute it at one input. -/
def fnExactTokensLongWrong : ChangeSpec := { name := "fnExactTokensLong", fn := fun _ => fun
  | [d] => { results := [.lit (.bool false)], args := [d] }
  | _ => none }
def FnExactTokensLongWrongFalsely : Prop := fnExactTokensLongRow.holds Try.pinned (OpenSpec.ofChange fnExactTokensLongWrong)

/-- 'laws.FnTokensByte': WHATEVER THE INPUT: true; the input reads as it did. -/
def fnTokensByteSpec : ChangeSpec := { name := "fnTokensByte", fn := fun _ => fun
  | [d] => { results := [.lit (.bool true)], args := [d] }
  | _ => none }
def fnTokensByteRow : OpenClaim := { program := "ytnfeedalbfflhaa", sum := "cb5946a6dc852f2682415c0e2ee28f9be100f19c65c2607ecb184f8ccbb00e03", func := "loop.example/corbel/laws.FnTokensByte", spec := "fnTokensByte", apart := false }
def FnTokensByteSaid : Prop := fnTokensByteRow.holds Try.pinned (OpenSpec.ofChange fnTokensByteSpec)

/-- ITS FALSE NEIGHBOUR: 'it returns false'. Refute it at one input. -/
def fnTokensByteWrong : ChangeSpec := { name := "fnTokensByte", fn := fun _ => fun
  | [d] => { results := [.lit (.bool false)], args := [d] }
  | _ => none }
def FnTokensByteWrongFalsely : Prop := fnTokensByteRow.holds Try.pinned (OpenSpec.ofChange fnTokensByteWrong)

/-- 'laws.FnTokensFar': WHATEVER THE INPUT: true; the input reads as it did. -/
def fnTokensFarSpec : ChangeSpec := { name := "fnTokensFar", fn := fun _ => fun
  | [d] => { results := [.lit (.bool true)], args := [d] }
  | _ => none }
def fnTokensFarRow : OpenClaim := { program := "ytnfeedalbfflhaa", sum := "cb5946a6dc852f2682415c0e2ee28f9be100f19c65c2607ecb184f8ccbb00e03", func := "loop.example/corbel/laws.FnTokensFar", spec := "fnTokensFar", apart := false }
def FnTokensFarSaid : Prop := fnTokensFarRow.holds Try.pinned (OpenSpec.ofChange fnTokensFarSpec)

/-- ITS FALSE NEIGHBOUR: 'it returns false'. Refute it at one input. -/
def fnTokensFarWrong : ChangeSpec := { name := "fnTokensFar", fn := fun _ => fun
  | [d] => { results := [.lit (.bool false)], args := [d] }
  | _ => none }
def FnTokensFarWrongFalsely : Prop := fnTokensFarRow.holds Try.pinned (OpenSpec.ofChange fnTokensFarWrong)

/-- 'laws.FnTokensTwice': WHATEVER THE INPUT: true; the input reads as it did. -/
def fnTokensTwiceSpec : ChangeSpec := { name := "fnTokensTwice", fn := fun _ => fun
  | [d] => { results := [.lit (.bool true)], args := [d] }
  | _ => none }
def fnTokensTwiceRow : OpenClaim := { program := "ytnfeedalbfflhaa", sum := "cb5946a6dc852f2682415c0e2ee28f9be100f19c65c2607ecb184f8ccbb00e03", func := "loop.example/corbel/laws.FnTokensTwice", spec := "fnTokensTwice", apart := false }
def FnTokensTwiceSaid : Prop := fnTokensTwiceRow.holds Try.pinned (OpenSpec.ofChange fnTokensTwiceSpec)

/-- ITS FALSE NEIGHBOUR: 'it returns false'. Refute it at one input. -/
def fnTokensTwiceWrong : ChangeSpec := { name := "fnTokensTwice", fn := fun _ => fun
  | [d] => { results := [.lit (.bool false)], args := [d] }
  | _ => none }
def FnTokensTwiceWrongFalsely : Prop := fnTokensTwiceRow.holds Try.pinned (OpenSpec.ofChange fnTokensTwiceWrong)

/-- 'laws.FnTokensOver': WHATEVER THE INPUT: true; the input reads as it did. -/
def fnTokensOverSpec : ChangeSpec := { name := "fnTokensOver", fn := fun _ => fun
  | [d] => { results := [.lit (.bool true)], args := [d] }
  | _ => none }
def fnTokensOverRow : OpenClaim := { program := "ytnfeedalbfflhaa", sum := "cb5946a6dc852f2682415c0e2ee28f9be100f19c65c2607ecb184f8ccbb00e03", func := "loop.example/corbel/laws.FnTokensOver", spec := "fnTokensOver", apart := false }
def FnTokensOverSaid : Prop := fnTokensOverRow.holds Try.pinned (OpenSpec.ofChange fnTokensOverSpec)

/-- ITS FALSE NEIGHBOUR: 'it returns false'. Refute it at one input. -/
def fnTokensOverWrong : ChangeSpec := { name := "fnTokensOver", fn := fun _ => fun
  | [d] => { results := [.lit (.bool false)], args := [d] }
  | _ => none }
def FnTokensOverWrongFalsely : Prop := fnTokensOverRow.holds Try.pinned (OpenSpec.ofChange fnTokensOverWrong)

/-- 'laws.FnTokens': WHATEVER THE INPUT: true; the input reads as it did. -/
def fnTokensSpec : ChangeSpec := { name := "fnTokens", fn := fun _ => fun
  | [d] => { results := [.lit (.bool true)], args := [d] }
  | _ => none }
def fnTokensRow : OpenClaim := { program := "ytnfeedalbfflhaa", sum := "cb5946a6dc852f2682415c0e2ee28f9be100f19c65c2607ecb184f8ccbb00e03", func := "loop.example/corbel/laws.FnTokens", spec := "fnTokens", apart := false }
def FnTokensSaid : Prop := fnTokensRow.holds Try.pinned (OpenSpec.ofChange fnTokensSpec)

/-- ITS FALSE NEIGHBOUR: 'it returns false'. Refute it at one input. -/
def fnTokensWrong : ChangeSpec := { name := "fnTokens", fn := fun _ => fun
  | [d] => { results := [.lit (.bool false)], args := [d] }
  | _ => none }
def FnTokensWrongFalsely : Prop := fnTokensRow.holds Try.pinned (OpenSpec.ofChange fnTokensWrong)

/-- 'laws.FnTokensText': WHATEVER THE INPUT: true; the input reads as it did. -/
def fnTokensTextSpec : ChangeSpec := { name := "fnTokensText", fn := fun _ => fun
  | [d] => { results := [.lit (.bool true)], args := [d] }
  | _ => none }
def fnTokensTextRow : OpenClaim := { program := "ytnfeedalbfflhaa", sum := "cb5946a6dc852f2682415c0e2ee28f9be100f19c65c2607ecb184f8ccbb00e03", func := "loop.example/corbel/laws.FnTokensText", spec := "fnTokensText", apart := false }
def FnTokensTextSaid : Prop := fnTokensTextRow.holds Try.pinned (OpenSpec.ofChange fnTokensTextSpec)

/-- ITS FALSE NEIGHBOUR: 'it returns false'. Refute it at one input. -/
def fnTokensTextWrong : ChangeSpec := { name := "fnTokensText", fn := fun _ => fun
  | [d] => { results := [.lit (.bool false)], args := [d] }
  | _ => none }
def FnTokensTextWrongFalsely : Prop := fnTokensTextRow.holds Try.pinned (OpenSpec.ofChange fnTokensTextWrong)

/-- 'laws.FnTokensBest': WHATEVER THE INPUT: true; the input reads as it did. -/
def fnTokensBestSpec : ChangeSpec := { name := "fnTokensBest", fn := fun _ => fun
  | [d] => { results := [.lit (.bool true)], args := [d] }
  | _ => none }
def fnTokensBestRow : OpenClaim := { program := "ytnfeedalbfflhaa", sum := "cb5946a6dc852f2682415c0e2ee28f9be100f19c65c2607ecb184f8ccbb00e03", func := "loop.example/corbel/laws.FnTokensBest", spec := "fnTokensBest", apart := false }
def FnTokensBestSaid : Prop := fnTokensBestRow.holds Try.pinned (OpenSpec.ofChange fnTokensBestSpec)

/-- ITS FALSE NEIGHBOUR: 'it returns false'. Refute it at one input. -/
def fnTokensBestWrong : ChangeSpec := { name := "fnTokensBest", fn := fun _ => fun
  | [d] => { results := [.lit (.bool false)], args := [d] }
  | _ => none }
def FnTokensBestWrongFalsely : Prop := fnTokensBestRow.holds Try.pinned (OpenSpec.ofChange fnTokensBestWrong)

/- THE SECOND FORM. 'bulk': how many values and letters a reading holds, each counted each time it is reached (what is shared counts as often as it is met; a slice's spare places count too). A statement '..UptoSaid' is the law's where the arguments, and the package variables that the reading takes, are together of bulk at most 1048576: NARROWER than '..Said'. Prove '..Said' where nothing that the law and all that it calls make is longer than what came in: it says more and counts as full. Else prove '..UptoSaid'. A law counts once. -/
mutual
def uptoBulk {H : Type} : DataW H → Nat
  | .lit (.string bytes) => bytes.length + 1
  | .lit _ => 1
  | .nil => 1
  | .ptr d => uptoBulk d + 1
  | .slice elems spare => uptoBulkAll elems + uptoBulkAll spare + 1
  | .agg parts => uptoBulkAll parts + 1
  | .iface _ d => uptoBulk d + 1
  | .map entries => uptoBulkEntries entries + 1
  | .held _ => 1
def uptoBulkAll {H : Type} : List (DataW H) → Nat
  | [] => 0
  | d :: r => uptoBulk d + uptoBulkAll r
def uptoBulkEntries {H : Type} : List (Lit × DataW H) → Nat
  | [] => 0
  | x :: r => uptoBulkEntry x + uptoBulkEntries r
def uptoBulkEntry {H : Type} : Lit × DataW H → Nat
  | (.string bytes, d) => bytes.length + uptoBulk d + 1
  | (_, d) => uptoBulk d + 1
 end
def uptoSmall : (H : Type) → List (DataW H) → Bool := fun _ ds => decide (uptoBulkAll ds ≤ 1048576)
def OpenSpec.upto (s : _root_.Go.ChangeSpec) : _root_.Go.OpenSpec := { _root_.Go.OpenSpec.ofChange s with cond := some uptoSmall }

/-- 'laws.FnTokensAll', WHERE WHAT IT READS IS OF BULK AT MOST 1048576: true; the input reads as it did. -/
def fnTokensAllUptoRow : OpenClaim := { program := "ytnfeedalbfflhaa", sum := "cb5946a6dc852f2682415c0e2ee28f9be100f19c65c2607ecb184f8ccbb00e03", func := "loop.example/corbel/laws.FnTokensAll", spec := "fnTokensAll", apart := false, narrowed := true }
def FnTokensAllUptoSaid : Prop := fnTokensAllUptoRow.holds Try.pinned (OpenSpec.upto fnTokensAllSpec)

/-- 'laws.FnExactTokensOk', WHERE WHAT IT READS IS OF BULK AT MOST 1048576: true; the input reads as it did. -/
def fnExactTokensOkUptoRow : OpenClaim := { program := "ytnfeedalbfflhaa", sum := "cb5946a6dc852f2682415c0e2ee28f9be100f19c65c2607ecb184f8ccbb00e03", func := "loop.example/corbel/laws.FnExactTokensOk", spec := "fnExactTokensOk", apart := false, narrowed := true }
def FnExactTokensOkUptoSaid : Prop := fnExactTokensOkUptoRow.holds Try.pinned (OpenSpec.upto fnExactTokensOkSpec)

/-- 'laws.FnExactTokensOf', WHERE WHAT IT READS IS OF BULK AT MOST 1048576: true; the input reads as it did. -/
def fnExactTokensOfUptoRow : OpenClaim := { program := "ytnfeedalbfflhaa", sum := "cb5946a6dc852f2682415c0e2ee28f9be100f19c65c2607ecb184f8ccbb00e03", func := "loop.example/corbel/laws.FnExactTokensOf", spec := "fnExactTokensOf", apart := false, narrowed := true }
def FnExactTokensOfUptoSaid : Prop := fnExactTokensOfUptoRow.holds Try.pinned (OpenSpec.upto fnExactTokensOfSpec)

/-- 'laws.FnExactTokensLong', WHERE WHAT IT READS IS OF BULK AT MOST 1048576: true; the input reads as it did. -/
def fnExactTokensLongUptoRow : OpenClaim := { program := "ytnfeedalbfflhaa", sum := "cb5946a6dc852f2682415c0e2ee28f9be100f19c65c2607ecb184f8ccbb00e03", func := "loop.example/corbel/laws.FnExactTokensLong", spec := "fnExactTokensLong", apart := false, narrowed := true }
def FnExactTokensLongUptoSaid : Prop := fnExactTokensLongUptoRow.holds Try.pinned (OpenSpec.upto fnExactTokensLongSpec)

/-- 'laws.FnTokensByte', WHERE WHAT IT READS IS OF BULK AT MOST 1048576: true; the input reads as it did. -/
def fnTokensByteUptoRow : OpenClaim := { program := "ytnfeedalbfflhaa", sum := "cb5946a6dc852f2682415c0e2ee28f9be100f19c65c2607ecb184f8ccbb00e03", func := "loop.example/corbel/laws.FnTokensByte", spec := "fnTokensByte", apart := false, narrowed := true }
def FnTokensByteUptoSaid : Prop := fnTokensByteUptoRow.holds Try.pinned (OpenSpec.upto fnTokensByteSpec)

/-- 'laws.FnTokensFar', WHERE WHAT IT READS IS OF BULK AT MOST 1048576: true; the input reads as it did. -/
def fnTokensFarUptoRow : OpenClaim := { program := "ytnfeedalbfflhaa", sum := "cb5946a6dc852f2682415c0e2ee28f9be100f19c65c2607ecb184f8ccbb00e03", func := "loop.example/corbel/laws.FnTokensFar", spec := "fnTokensFar", apart := false, narrowed := true }
def FnTokensFarUptoSaid : Prop := fnTokensFarUptoRow.holds Try.pinned (OpenSpec.upto fnTokensFarSpec)

/-- 'laws.FnTokensTwice', WHERE WHAT IT READS IS OF BULK AT MOST 1048576: true; the input reads as it did. -/
def fnTokensTwiceUptoRow : OpenClaim := { program := "ytnfeedalbfflhaa", sum := "cb5946a6dc852f2682415c0e2ee28f9be100f19c65c2607ecb184f8ccbb00e03", func := "loop.example/corbel/laws.FnTokensTwice", spec := "fnTokensTwice", apart := false, narrowed := true }
def FnTokensTwiceUptoSaid : Prop := fnTokensTwiceUptoRow.holds Try.pinned (OpenSpec.upto fnTokensTwiceSpec)

/-- 'laws.FnTokensOver', WHERE WHAT IT READS IS OF BULK AT MOST 1048576: true; the input reads as it did. -/
def fnTokensOverUptoRow : OpenClaim := { program := "ytnfeedalbfflhaa", sum := "cb5946a6dc852f2682415c0e2ee28f9be100f19c65c2607ecb184f8ccbb00e03", func := "loop.example/corbel/laws.FnTokensOver", spec := "fnTokensOver", apart := false, narrowed := true }
def FnTokensOverUptoSaid : Prop := fnTokensOverUptoRow.holds Try.pinned (OpenSpec.upto fnTokensOverSpec)

/-- 'laws.FnTokens', WHERE WHAT IT READS IS OF BULK AT MOST 1048576: true; the input reads as it did. -/
def fnTokensUptoRow : OpenClaim := { program := "ytnfeedalbfflhaa", sum := "cb5946a6dc852f2682415c0e2ee28f9be100f19c65c2607ecb184f8ccbb00e03", func := "loop.example/corbel/laws.FnTokens", spec := "fnTokens", apart := false, narrowed := true }
def FnTokensUptoSaid : Prop := fnTokensUptoRow.holds Try.pinned (OpenSpec.upto fnTokensSpec)

/-- 'laws.FnTokensText', WHERE WHAT IT READS IS OF BULK AT MOST 1048576: true; the input reads as it did. -/
def fnTokensTextUptoRow : OpenClaim := { program := "ytnfeedalbfflhaa", sum := "cb5946a6dc852f2682415c0e2ee28f9be100f19c65c2607ecb184f8ccbb00e03", func := "loop.example/corbel/laws.FnTokensText", spec := "fnTokensText", apart := false, narrowed := true }
def FnTokensTextUptoSaid : Prop := fnTokensTextUptoRow.holds Try.pinned (OpenSpec.upto fnTokensTextSpec)

/-- 'laws.FnTokensBest', WHERE WHAT IT READS IS OF BULK AT MOST 1048576: true; the input reads as it did. -/
def fnTokensBestUptoRow : OpenClaim := { program := "ytnfeedalbfflhaa", sum := "cb5946a6dc852f2682415c0e2ee28f9be100f19c65c2607ecb184f8ccbb00e03", func := "loop.example/corbel/laws.FnTokensBest", spec := "fnTokensBest", apart := false, narrowed := true }
def FnTokensBestUptoSaid : Prop := fnTokensBestUptoRow.holds Try.pinned (OpenSpec.upto fnTokensBestSpec)

end Rows
end Go.Proofs.Ytnfeedalbfflhaa
