/-
  No cell of these rows narrows 'for every input' (looked for: loops, veiled, ifaces, maps, wideKeys, modest, calm, conditions, laid).
  DERIVED. THE GIVEN ROWS OF THIS SEAT. 6 by the template 'for every input the law returns true; each argument reads behind the call as it read before'; 0 by the template 'total and deterministic' (their statements: YtdimeaooekhkhaaGreatTotals.lean).
  GIVEN WITH THE SEED: the statements are not yours to turn. If you find one false, say at which input.
  Laid BY PROGRAM, IN A SANDBOX (cutbox-rows.mjs): the forced cells as the released guide's own fill.sh prints them over the translation 6eedd48cc91e4e79… (all of the seat's roots in one cut). By AI agents, Wed Nov 11 2026. No macro, syntax, notation, axiom, sorry.
-/
import Derived.Test.YtdimeaooekhkhaaGreatChecked
import GoSem.Claim
import GoSem.ClaimJoined
import GoSem.ClaimMapViews
import Derived.JoinedTies
import Derived.KernelRfl
namespace Go.Proofs.YtdimeaooekhkhaaGreat
/- THE CELL 'sum', in the pinned program and in every row, IS THE sha256 OF THE DUMP (.gsa) THAT YtdimeaooekhkhaaGreatProg.lean LOADS. Nothing in Lean hashes anything: it is a label: what it is worth is what the hold of that sum in a sandbox is worth. -/
noncomputable def Tryz.pinned : Pinned := { name := "ytdimeaooekhkhaagreat", sum := "6eedd48cc91e4e791e70f9d9c8a7137e3658a68b37ae176c44624e39e4ed68fd", checked := Tryz.checked }
namespace Rows
def none {H : Type} : Left H := { results := [], args := [] }

/-- 'complinelaw23.PartBlocked': WHATEVER THE INPUT: true; the input reads as it did. -/
def partBlockedSpec : ChangeSpec := { name := "partBlocked", fn := fun _ => fun
  | [d1, d2, d3, d4, d5, d6, d7] => { results := [.lit (.bool true)], args := [d1, d2, d3, d4, d5, d6, d7] }
  | _ => none }
def partBlockedRow : OpenClaim := { program := "ytdimeaooekhkhaagreat", sum := "6eedd48cc91e4e791e70f9d9c8a7137e3658a68b37ae176c44624e39e4ed68fd", func := "compline/complinelaw23.PartBlocked", spec := "partBlocked", inPlace := ["maps.clone"], unfollowed := true, recurses := true, named := ["math/bits.divideError", "math/bits.overflowError"], plainKeys := false, apart := false }
def PartBlockedSaid : Prop := partBlockedRow.holds Tryz.pinned (OpenSpec.ofChange partBlockedSpec)

/-- ITS FALSE NEIGHBOUR: 'it returns false'. Refute it at one input. -/
def partBlockedWrong : ChangeSpec := { name := "partBlocked", fn := fun _ => fun
  | [d1, d2, d3, d4, d5, d6, d7] => { results := [.lit (.bool false)], args := [d1, d2, d3, d4, d5, d6, d7] }
  | _ => none }
def PartBlockedWrongFalsely : Prop := partBlockedRow.holds Tryz.pinned (OpenSpec.ofChange partBlockedWrong)

/-- 'complinelaw22.HallStocks': WHATEVER THE INPUT: true; the input reads as it did. -/
def hallStocksSpec : ChangeSpec := { name := "hallStocks", fn := fun _ => fun
  | [d1, d2, d3, d4] => { results := [.lit (.bool true)], args := [d1, d2, d3, d4] }
  | _ => none }
def hallStocksRow : OpenClaim := { program := "ytdimeaooekhkhaagreat", sum := "6eedd48cc91e4e791e70f9d9c8a7137e3658a68b37ae176c44624e39e4ed68fd", func := "compline/complinelaw22.HallStocks", spec := "hallStocks", inPlace := ["maps.clone", "math/bits.Add64"], unfollowed := true, recurses := true, plainKeys := false, apart := false }
def HallStocksSaid : Prop := hallStocksRow.holds Tryz.pinned (OpenSpec.ofChange hallStocksSpec)

/-- ITS FALSE NEIGHBOUR: 'it returns false'. Refute it at one input. -/
def hallStocksWrong : ChangeSpec := { name := "hallStocks", fn := fun _ => fun
  | [d1, d2, d3, d4] => { results := [.lit (.bool false)], args := [d1, d2, d3, d4] }
  | _ => none }
def HallStocksWrongFalsely : Prop := hallStocksRow.holds Tryz.pinned (OpenSpec.ofChange hallStocksWrong)

/-- 'complinelaw22.HallNone': WHATEVER THE INPUT: true; the input reads as it did. -/
def hallNoneSpec : ChangeSpec := { name := "hallNone", fn := fun _ => fun
  | [d] => { results := [.lit (.bool true)], args := [d] }
  | _ => none }
def hallNoneRow : OpenClaim := { program := "ytdimeaooekhkhaagreat", sum := "6eedd48cc91e4e791e70f9d9c8a7137e3658a68b37ae176c44624e39e4ed68fd", func := "compline/complinelaw22.HallNone", spec := "hallNone", inPlace := ["maps.clone", "math/bits.Add64"], unfollowed := true, recurses := true, plainKeys := false, apart := false }
def HallNoneSaid : Prop := hallNoneRow.holds Tryz.pinned (OpenSpec.ofChange hallNoneSpec)

/-- ITS FALSE NEIGHBOUR: 'it returns false'. Refute it at one input. -/
def hallNoneWrong : ChangeSpec := { name := "hallNone", fn := fun _ => fun
  | [d] => { results := [.lit (.bool false)], args := [d] }
  | _ => none }
def HallNoneWrongFalsely : Prop := hallNoneRow.holds Tryz.pinned (OpenSpec.ofChange hallNoneWrong)

/-- 'complinelaw24.CheckReasons': WHATEVER THE INPUT: true; the input reads as it did. -/
def checkReasonsSpec : ChangeSpec := { name := "checkReasons", fn := fun _ => fun
  | [d1, d2, d3, d4, d5, d6, d7, d8] => { results := [.lit (.bool true)], args := [d1, d2, d3, d4, d5, d6, d7, d8] }
  | _ => none }
def checkReasonsRow : OpenClaim := { program := "ytdimeaooekhkhaagreat", sum := "6eedd48cc91e4e791e70f9d9c8a7137e3658a68b37ae176c44624e39e4ed68fd", func := "compline/complinelaw24.CheckReasons", spec := "checkReasons", inPlace := ["maps.clone", "math/bits.Add64"], unfollowed := true, recurses := true, named := ["math/bits.divideError", "math/bits.overflowError"], plainKeys := false, apart := false }
def CheckReasonsSaid : Prop := checkReasonsRow.holds Tryz.pinned (OpenSpec.ofChange checkReasonsSpec)

/-- ITS FALSE NEIGHBOUR: 'it returns false'. Refute it at one input. -/
def checkReasonsWrong : ChangeSpec := { name := "checkReasons", fn := fun _ => fun
  | [d1, d2, d3, d4, d5, d6, d7, d8] => { results := [.lit (.bool false)], args := [d1, d2, d3, d4, d5, d6, d7, d8] }
  | _ => none }
def CheckReasonsWrongFalsely : Prop := checkReasonsRow.holds Tryz.pinned (OpenSpec.ofChange checkReasonsWrong)

/-- 'complinelaw24.CheckLimits': WHATEVER THE INPUT: true; the input reads as it did. -/
def checkLimitsSpec : ChangeSpec := { name := "checkLimits", fn := fun _ => fun
  | [d1, d2, d3, d4] => { results := [.lit (.bool true)], args := [d1, d2, d3, d4] }
  | _ => none }
def checkLimitsRow : OpenClaim := { program := "ytdimeaooekhkhaagreat", sum := "6eedd48cc91e4e791e70f9d9c8a7137e3658a68b37ae176c44624e39e4ed68fd", func := "compline/complinelaw24.CheckLimits", spec := "checkLimits", inPlace := ["maps.clone", "math/bits.Add64"], unfollowed := true, recurses := true, named := ["math/bits.divideError", "math/bits.overflowError"], plainKeys := false, apart := false }
def CheckLimitsSaid : Prop := checkLimitsRow.holds Tryz.pinned (OpenSpec.ofChange checkLimitsSpec)

/-- ITS FALSE NEIGHBOUR: 'it returns false'. Refute it at one input. -/
def checkLimitsWrong : ChangeSpec := { name := "checkLimits", fn := fun _ => fun
  | [d1, d2, d3, d4] => { results := [.lit (.bool false)], args := [d1, d2, d3, d4] }
  | _ => none }
def CheckLimitsWrongFalsely : Prop := checkLimitsRow.holds Tryz.pinned (OpenSpec.ofChange checkLimitsWrong)

/-- 'complinelaw24.CheckTwice': WHATEVER THE INPUT: true; the input reads as it did. -/
def checkTwiceSpec : ChangeSpec := { name := "checkTwice", fn := fun _ => fun
  | [d1, d2, d3] => { results := [.lit (.bool true)], args := [d1, d2, d3] }
  | _ => none }
def checkTwiceRow : OpenClaim := { program := "ytdimeaooekhkhaagreat", sum := "6eedd48cc91e4e791e70f9d9c8a7137e3658a68b37ae176c44624e39e4ed68fd", func := "compline/complinelaw24.CheckTwice", spec := "checkTwice", inPlace := ["maps.clone", "math/bits.Add64"], unfollowed := true, recurses := true, named := ["math/bits.divideError", "math/bits.overflowError"], plainKeys := false, apart := false }
def CheckTwiceSaid : Prop := checkTwiceRow.holds Tryz.pinned (OpenSpec.ofChange checkTwiceSpec)

/-- ITS FALSE NEIGHBOUR: 'it returns false'. Refute it at one input. -/
def checkTwiceWrong : ChangeSpec := { name := "checkTwice", fn := fun _ => fun
  | [d1, d2, d3] => { results := [.lit (.bool false)], args := [d1, d2, d3] }
  | _ => none }
def CheckTwiceWrongFalsely : Prop := checkTwiceRow.holds Tryz.pinned (OpenSpec.ofChange checkTwiceWrong)

/- THE SECOND FORM. 'bulk': how many values and letters a reading holds, each counted each time it is reached (what is shared counts as often as it is met; a slice's spare places count too). A statement '..UptoSaid' is the law's where the arguments, and the package variables that the reading takes, are together of bulk at most 1048576: NARROWER than '..Said'. Prove '..Said' where nothing that the law and all that it calls make is longer than what came in: it says more and counts as full. Else prove '..UptoSaid'. A law counts once. -/
mutual
def uptoBulk {H : Type} : DataW H → Nat
  | .lit (.string bytes) => bytes.length + 1
  | .lit _ => 1
  | .nil => 1
  | .ptr d => uptoBulk d + 1
  | .slice elems spare => uptoBulkAll elems + uptoBulkAll spare + 1
  | .agg parts => uptoBulkAll parts + 1
  | .iface _ d => uptoBulk d + 1
  | .map entries => uptoBulkEntries entries + 1
  | .held _ => 1
def uptoBulkAll {H : Type} : List (DataW H) → Nat
  | [] => 0
  | d :: r => uptoBulk d + uptoBulkAll r
def uptoBulkEntries {H : Type} : List (Lit × DataW H) → Nat
  | [] => 0
  | x :: r => uptoBulkEntry x + uptoBulkEntries r
def uptoBulkEntry {H : Type} : Lit × DataW H → Nat
  | (.string bytes, d) => bytes.length + uptoBulk d + 1
  | (_, d) => uptoBulk d + 1
 end
def uptoSmall : (H : Type) → List (DataW H) → Bool := fun _ ds => decide (uptoBulkAll ds ≤ 1048576)
def OpenSpec.upto (s : _root_.Go.ChangeSpec) : _root_.Go.OpenSpec := { _root_.Go.OpenSpec.ofChange s with cond := some uptoSmall }

/-- 'complinelaw23.PartBlocked', WHERE WHAT IT READS IS OF BULK AT MOST 1048576: true; the input reads as it did. -/
def partBlockedUptoRow : OpenClaim := { program := "ytdimeaooekhkhaagreat", sum := "6eedd48cc91e4e791e70f9d9c8a7137e3658a68b37ae176c44624e39e4ed68fd", func := "compline/complinelaw23.PartBlocked", spec := "partBlocked", inPlace := ["maps.clone"], unfollowed := true, recurses := true, named := ["math/bits.divideError", "math/bits.overflowError"], plainKeys := false, apart := false, narrowed := true }
def PartBlockedUptoSaid : Prop := partBlockedUptoRow.holds Tryz.pinned (OpenSpec.upto partBlockedSpec)

/-- 'complinelaw22.HallStocks', WHERE WHAT IT READS IS OF BULK AT MOST 1048576: true; the input reads as it did. -/
def hallStocksUptoRow : OpenClaim := { program := "ytdimeaooekhkhaagreat", sum := "6eedd48cc91e4e791e70f9d9c8a7137e3658a68b37ae176c44624e39e4ed68fd", func := "compline/complinelaw22.HallStocks", spec := "hallStocks", inPlace := ["maps.clone", "math/bits.Add64"], unfollowed := true, recurses := true, plainKeys := false, apart := false, narrowed := true }
def HallStocksUptoSaid : Prop := hallStocksUptoRow.holds Tryz.pinned (OpenSpec.upto hallStocksSpec)

/-- 'complinelaw22.HallNone', WHERE WHAT IT READS IS OF BULK AT MOST 1048576: true; the input reads as it did. -/
def hallNoneUptoRow : OpenClaim := { program := "ytdimeaooekhkhaagreat", sum := "6eedd48cc91e4e791e70f9d9c8a7137e3658a68b37ae176c44624e39e4ed68fd", func := "compline/complinelaw22.HallNone", spec := "hallNone", inPlace := ["maps.clone", "math/bits.Add64"], unfollowed := true, recurses := true, plainKeys := false, apart := false, narrowed := true }
def HallNoneUptoSaid : Prop := hallNoneUptoRow.holds Tryz.pinned (OpenSpec.upto hallNoneSpec)

/-- 'complinelaw24.CheckReasons', WHERE WHAT IT READS IS OF BULK AT MOST 1048576: true; the input reads as it did. -/
def checkReasonsUptoRow : OpenClaim := { program := "ytdimeaooekhkhaagreat", sum := "6eedd48cc91e4e791e70f9d9c8a7137e3658a68b37ae176c44624e39e4ed68fd", func := "compline/complinelaw24.CheckReasons", spec := "checkReasons", inPlace := ["maps.clone", "math/bits.Add64"], unfollowed := true, recurses := true, named := ["math/bits.divideError", "math/bits.overflowError"], plainKeys := false, apart := false, narrowed := true }
def CheckReasonsUptoSaid : Prop := checkReasonsUptoRow.holds Tryz.pinned (OpenSpec.upto checkReasonsSpec)

/-- 'complinelaw24.CheckLimits', WHERE WHAT IT READS IS OF BULK AT MOST 1048576: true; the input reads as it did. -/
def checkLimitsUptoRow : OpenClaim := { program := "ytdimeaooekhkhaagreat", sum := "6eedd48cc91e4e791e70f9d9c8a7137e3658a68b37ae176c44624e39e4ed68fd", func := "compline/complinelaw24.CheckLimits", spec := "checkLimits", inPlace := ["maps.clone", "math/bits.Add64"], unfollowed := true, recurses := true, named := ["math/bits.divideError", "math/bits.overflowError"], plainKeys := false, apart := false, narrowed := true }
def CheckLimitsUptoSaid : Prop := checkLimitsUptoRow.holds Tryz.pinned (OpenSpec.upto checkLimitsSpec)

/-- 'complinelaw24.CheckTwice', WHERE WHAT IT READS IS OF BULK AT MOST 1048576: true; the input reads as it did. -/
def checkTwiceUptoRow : OpenClaim := { program := "ytdimeaooekhkhaagreat", sum := "6eedd48cc91e4e791e70f9d9c8a7137e3658a68b37ae176c44624e39e4ed68fd", func := "compline/complinelaw24.CheckTwice", spec := "checkTwice", inPlace := ["maps.clone", "math/bits.Add64"], unfollowed := true, recurses := true, named := ["math/bits.divideError", "math/bits.overflowError"], plainKeys := false, apart := false, narrowed := true }
def CheckTwiceUptoSaid : Prop := checkTwiceUptoRow.holds Tryz.pinned (OpenSpec.upto checkTwiceSpec)

end Rows
end Go.Proofs.YtdimeaooekhkhaaGreat
