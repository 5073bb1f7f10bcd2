/-
  No cell of these rows narrows 'for every input' (looked for: loops, veiled, ifaces, maps, wideKeys, modest, calm, conditions, laid).
  DERIVED. THE GIVEN ROWS OF THIS SEAT. 7 by the template 'for every input the law returns true; each argument reads behind the call as it read before'; 0 by the template 'total and deterministic' (their statements: YtoiikbomdlnjlaaTotals.lean).
  GIVEN WITH THE SEED: the statements are not yours to turn. If you find one false, say at which input.
  Laid BY PROGRAM, IN A SANDBOX (cutbox-rows.mjs): the forced cells as the released guide's own fill.sh prints them over the translation 4dd57d7ec9f64cc2… (all of the seat's roots in one cut). By AI agents, Wed Nov 11 2026. No macro, syntax, notation, axiom, sorry.
-/
import Derived.Test.YtoiikbomdlnjlaaChecked
import GoSem.Claim
import GoSem.ClaimJoined
import GoSem.ClaimMapViews
import Derived.JoinedTies
import Derived.KernelRfl
namespace Go.Proofs.Ytoiikbomdlnjlaa
/- THE CELL 'sum', in the pinned program and in every row, IS THE sha256 OF THE DUMP (.gsa) THAT YtoiikbomdlnjlaaProg.lean LOADS. Nothing in Lean hashes anything: it is a label: what it is worth is what the hold of that sum in a sandbox is worth. -/
noncomputable def Try.pinned : Pinned := { name := "ytoiikbomdlnjlaa", sum := "4dd57d7ec9f64cc2547bc260091eff1495e93b12413e2946630faa8bf491c73e", checked := Try.checked }
namespace Rows
def none {H : Type} : Left H := { results := [], args := [] }

/-- 'complinelaw23.PartTells': WHATEVER THE INPUT: true; the input reads as it did. -/
def partTellsSpec : ChangeSpec := { name := "partTells", fn := fun _ => fun
  | [d1, d2, d3, d4, d5, d6] => { results := [.lit (.bool true)], args := [d1, d2, d3, d4, d5, d6] }
  | _ => none }
def partTellsRow : OpenClaim := { program := "ytoiikbomdlnjlaa", sum := "4dd57d7ec9f64cc2547bc260091eff1495e93b12413e2946630faa8bf491c73e", func := "compline/complinelaw23.PartTells", spec := "partTells", apart := false }
def PartTellsSaid : Prop := partTellsRow.holds Try.pinned (OpenSpec.ofChange partTellsSpec)

/-- ITS FALSE NEIGHBOUR: 'it returns false'. Refute it at one input. -/
def partTellsWrong : ChangeSpec := { name := "partTells", fn := fun _ => fun
  | [d1, d2, d3, d4, d5, d6] => { results := [.lit (.bool false)], args := [d1, d2, d3, d4, d5, d6] }
  | _ => none }
def PartTellsWrongFalsely : Prop := partTellsRow.holds Try.pinned (OpenSpec.ofChange partTellsWrong)

/-- 'complinelaw23.PartMost': WHATEVER THE INPUT: true; the input reads as it did. -/
def partMostSpec : ChangeSpec := { name := "partMost", fn := fun _ => fun
  | [d1, d2, d3, d4] => { results := [.lit (.bool true)], args := [d1, d2, d3, d4] }
  | _ => none }
def partMostRow : OpenClaim := { program := "ytoiikbomdlnjlaa", sum := "4dd57d7ec9f64cc2547bc260091eff1495e93b12413e2946630faa8bf491c73e", func := "compline/complinelaw23.PartMost", spec := "partMost", apart := false }
def PartMostSaid : Prop := partMostRow.holds Try.pinned (OpenSpec.ofChange partMostSpec)

/-- ITS FALSE NEIGHBOUR: 'it returns false'. Refute it at one input. -/
def partMostWrong : ChangeSpec := { name := "partMost", fn := fun _ => fun
  | [d1, d2, d3, d4] => { results := [.lit (.bool false)], args := [d1, d2, d3, d4] }
  | _ => none }
def PartMostWrongFalsely : Prop := partMostRow.holds Try.pinned (OpenSpec.ofChange partMostWrong)

/-- 'complinelaw23.PartSteps': WHATEVER THE INPUT: true; the input reads as it did. -/
def partStepsSpec : ChangeSpec := { name := "partSteps", fn := fun _ => fun
  | [d1, d2, d3, d4, d5] => { results := [.lit (.bool true)], args := [d1, d2, d3, d4, d5] }
  | _ => none }
def partStepsRow : OpenClaim := { program := "ytoiikbomdlnjlaa", sum := "4dd57d7ec9f64cc2547bc260091eff1495e93b12413e2946630faa8bf491c73e", func := "compline/complinelaw23.PartSteps", spec := "partSteps", apart := false }
def PartStepsSaid : Prop := partStepsRow.holds Try.pinned (OpenSpec.ofChange partStepsSpec)

/-- ITS FALSE NEIGHBOUR: 'it returns false'. Refute it at one input. -/
def partStepsWrong : ChangeSpec := { name := "partSteps", fn := fun _ => fun
  | [d1, d2, d3, d4, d5] => { results := [.lit (.bool false)], args := [d1, d2, d3, d4, d5] }
  | _ => none }
def PartStepsWrongFalsely : Prop := partStepsRow.holds Try.pinned (OpenSpec.ofChange partStepsWrong)

/-- 'complinelaw17.UfJoins': WHATEVER THE INPUT: true; the input reads as it did. -/
def ufJoinsSpec : ChangeSpec := { name := "ufJoins", fn := fun _ => fun
  | [d1, d2] => { results := [.lit (.bool true)], args := [d1, d2] }
  | _ => none }
def ufJoinsRow : OpenClaim := { program := "ytoiikbomdlnjlaa", sum := "4dd57d7ec9f64cc2547bc260091eff1495e93b12413e2946630faa8bf491c73e", func := "compline/complinelaw17.UfJoins", spec := "ufJoins", apart := false }
def UfJoinsSaid : Prop := ufJoinsRow.holds Try.pinned (OpenSpec.ofChange ufJoinsSpec)

/-- ITS FALSE NEIGHBOUR: 'it returns false'. Refute it at one input. -/
def ufJoinsWrong : ChangeSpec := { name := "ufJoins", fn := fun _ => fun
  | [d1, d2] => { results := [.lit (.bool false)], args := [d1, d2] }
  | _ => none }
def UfJoinsWrongFalsely : Prop := ufJoinsRow.holds Try.pinned (OpenSpec.ofChange ufJoinsWrong)

/-- 'complinelaw17.UfHeads': WHATEVER THE INPUT: true; the input reads as it did. -/
def ufHeadsSpec : ChangeSpec := { name := "ufHeads", fn := fun _ => fun
  | [d1, d2, d3] => { results := [.lit (.bool true)], args := [d1, d2, d3] }
  | _ => none }
def ufHeadsRow : OpenClaim := { program := "ytoiikbomdlnjlaa", sum := "4dd57d7ec9f64cc2547bc260091eff1495e93b12413e2946630faa8bf491c73e", func := "compline/complinelaw17.UfHeads", spec := "ufHeads", apart := false }
def UfHeadsSaid : Prop := ufHeadsRow.holds Try.pinned (OpenSpec.ofChange ufHeadsSpec)

/-- ITS FALSE NEIGHBOUR: 'it returns false'. Refute it at one input. -/
def ufHeadsWrong : ChangeSpec := { name := "ufHeads", fn := fun _ => fun
  | [d1, d2, d3] => { results := [.lit (.bool false)], args := [d1, d2, d3] }
  | _ => none }
def UfHeadsWrongFalsely : Prop := ufHeadsRow.holds Try.pinned (OpenSpec.ofChange ufHeadsWrong)

/-- 'complinelaw17.UfNone': WHATEVER THE INPUT: true; the input reads as it did. -/
def ufNoneSpec : ChangeSpec := { name := "ufNone", fn := fun _ => fun
  | [d] => { results := [.lit (.bool true)], args := [d] }
  | _ => none }
def ufNoneRow : OpenClaim := { program := "ytoiikbomdlnjlaa", sum := "4dd57d7ec9f64cc2547bc260091eff1495e93b12413e2946630faa8bf491c73e", func := "compline/complinelaw17.UfNone", spec := "ufNone", apart := false }
def UfNoneSaid : Prop := ufNoneRow.holds Try.pinned (OpenSpec.ofChange ufNoneSpec)

/-- ITS FALSE NEIGHBOUR: 'it returns false'. Refute it at one input. -/
def ufNoneWrong : ChangeSpec := { name := "ufNone", fn := fun _ => fun
  | [d] => { results := [.lit (.bool false)], args := [d] }
  | _ => none }
def UfNoneWrongFalsely : Prop := ufNoneRow.holds Try.pinned (OpenSpec.ofChange ufNoneWrong)

/-- 'complinelaw17.UfGrows': WHATEVER THE INPUT: true; the input reads as it did. -/
def ufGrowsSpec : ChangeSpec := { name := "ufGrows", fn := fun _ => fun
  | [d1, d2, d3] => { results := [.lit (.bool true)], args := [d1, d2, d3] }
  | _ => none }
def ufGrowsRow : OpenClaim := { program := "ytoiikbomdlnjlaa", sum := "4dd57d7ec9f64cc2547bc260091eff1495e93b12413e2946630faa8bf491c73e", func := "compline/complinelaw17.UfGrows", spec := "ufGrows", apart := false }
def UfGrowsSaid : Prop := ufGrowsRow.holds Try.pinned (OpenSpec.ofChange ufGrowsSpec)

/-- ITS FALSE NEIGHBOUR: 'it returns false'. Refute it at one input. -/
def ufGrowsWrong : ChangeSpec := { name := "ufGrows", fn := fun _ => fun
  | [d1, d2, d3] => { results := [.lit (.bool false)], args := [d1, d2, d3] }
  | _ => none }
def UfGrowsWrongFalsely : Prop := ufGrowsRow.holds Try.pinned (OpenSpec.ofChange ufGrowsWrong)

/- THE SECOND FORM. 'bulk': how many values and letters a reading holds, each counted each time it is reached (what is shared counts as often as it is met; a slice's spare places count too). A statement '..UptoSaid' is the law's where the arguments, and the package variables that the reading takes, are together of bulk at most 1048576: NARROWER than '..Said'. Prove '..Said' where nothing that the law and all that it calls make is longer than what came in: it says more and counts as full. Else prove '..UptoSaid'. A law counts once. -/
mutual
def uptoBulk {H : Type} : DataW H → Nat
  | .lit (.string bytes) => bytes.length + 1
  | .lit _ => 1
  | .nil => 1
  | .ptr d => uptoBulk d + 1
  | .slice elems spare => uptoBulkAll elems + uptoBulkAll spare + 1
  | .agg parts => uptoBulkAll parts + 1
  | .iface _ d => uptoBulk d + 1
  | .map entries => uptoBulkEntries entries + 1
  | .held _ => 1
def uptoBulkAll {H : Type} : List (DataW H) → Nat
  | [] => 0
  | d :: r => uptoBulk d + uptoBulkAll r
def uptoBulkEntries {H : Type} : List (Lit × DataW H) → Nat
  | [] => 0
  | x :: r => uptoBulkEntry x + uptoBulkEntries r
def uptoBulkEntry {H : Type} : Lit × DataW H → Nat
  | (.string bytes, d) => bytes.length + uptoBulk d + 1
  | (_, d) => uptoBulk d + 1
 end
def uptoSmall : (H : Type) → List (DataW H) → Bool := fun _ ds => decide (uptoBulkAll ds ≤ 1048576)
def OpenSpec.upto (s : _root_.Go.ChangeSpec) : _root_.Go.OpenSpec := { _root_.Go.OpenSpec.ofChange s with cond := some uptoSmall }

/-- 'complinelaw23.PartTells', WHERE WHAT IT READS IS OF BULK AT MOST 1048576: true; the input reads as it did. -/
def partTellsUptoRow : OpenClaim := { program := "ytoiikbomdlnjlaa", sum := "4dd57d7ec9f64cc2547bc260091eff1495e93b12413e2946630faa8bf491c73e", func := "compline/complinelaw23.PartTells", spec := "partTells", apart := false, narrowed := true }
def PartTellsUptoSaid : Prop := partTellsUptoRow.holds Try.pinned (OpenSpec.upto partTellsSpec)

/-- 'complinelaw23.PartMost', WHERE WHAT IT READS IS OF BULK AT MOST 1048576: true; the input reads as it did. -/
def partMostUptoRow : OpenClaim := { program := "ytoiikbomdlnjlaa", sum := "4dd57d7ec9f64cc2547bc260091eff1495e93b12413e2946630faa8bf491c73e", func := "compline/complinelaw23.PartMost", spec := "partMost", apart := false, narrowed := true }
def PartMostUptoSaid : Prop := partMostUptoRow.holds Try.pinned (OpenSpec.upto partMostSpec)

/-- 'complinelaw23.PartSteps', WHERE WHAT IT READS IS OF BULK AT MOST 1048576: true; the input reads as it did. -/
def partStepsUptoRow : OpenClaim := { program := "ytoiikbomdlnjlaa", sum := "4dd57d7ec9f64cc2547bc260091eff1495e93b12413e2946630faa8bf491c73e", func := "compline/complinelaw23.PartSteps", spec := "partSteps", apart := false, narrowed := true }
def PartStepsUptoSaid : Prop := partStepsUptoRow.holds Try.pinned (OpenSpec.upto partStepsSpec)

/-- 'complinelaw17.UfJoins', WHERE WHAT IT READS IS OF BULK AT MOST 1048576: true; the input reads as it did. -/
def ufJoinsUptoRow : OpenClaim := { program := "ytoiikbomdlnjlaa", sum := "4dd57d7ec9f64cc2547bc260091eff1495e93b12413e2946630faa8bf491c73e", func := "compline/complinelaw17.UfJoins", spec := "ufJoins", apart := false, narrowed := true }
def UfJoinsUptoSaid : Prop := ufJoinsUptoRow.holds Try.pinned (OpenSpec.upto ufJoinsSpec)

/-- 'complinelaw17.UfHeads', WHERE WHAT IT READS IS OF BULK AT MOST 1048576: true; the input reads as it did. -/
def ufHeadsUptoRow : OpenClaim := { program := "ytoiikbomdlnjlaa", sum := "4dd57d7ec9f64cc2547bc260091eff1495e93b12413e2946630faa8bf491c73e", func := "compline/complinelaw17.UfHeads", spec := "ufHeads", apart := false, narrowed := true }
def UfHeadsUptoSaid : Prop := ufHeadsUptoRow.holds Try.pinned (OpenSpec.upto ufHeadsSpec)

/-- 'complinelaw17.UfNone', WHERE WHAT IT READS IS OF BULK AT MOST 1048576: true; the input reads as it did. -/
def ufNoneUptoRow : OpenClaim := { program := "ytoiikbomdlnjlaa", sum := "4dd57d7ec9f64cc2547bc260091eff1495e93b12413e2946630faa8bf491c73e", func := "compline/complinelaw17.UfNone", spec := "ufNone", apart := false, narrowed := true }
def UfNoneUptoSaid : Prop := ufNoneUptoRow.holds Try.pinned (OpenSpec.upto ufNoneSpec)

/-- 'complinelaw17.UfGrows', WHERE WHAT IT READS IS OF BULK AT MOST 1048576: true; the input reads as it did. -/
def ufGrowsUptoRow : OpenClaim := { program := "ytoiikbomdlnjlaa", sum := "4dd57d7ec9f64cc2547bc260091eff1495e93b12413e2946630faa8bf491c73e", func := "compline/complinelaw17.UfGrows", spec := "ufGrows", apart := false, narrowed := true }
def UfGrowsUptoSaid : Prop := ufGrowsUptoRow.holds Try.pinned (OpenSpec.upto ufGrowsSpec)

end Rows
end Go.Proofs.Ytoiikbomdlnjlaa
