/- Proved: the call of complinelaw22's alive: true, and nothing that lay there turns. -/
import Derived.Test.YtdimeaooekhkhaaGreatTab
import Derived.KernelRfl
set_option linter.unusedVariables false
namespace Go.Proofs.YtdimeaooekhkhaaGreat.AX
open Go.RowKit Go.Proofs
theorem alive14_run : saysTrue (run (tabTab []) [] 100 14 [] ⟨.lf, 0⟩) = true := by kernel_rfl
theorem alive14 (w : World) : Calls Tryz.prog 14 #[] w fun e w' => e = .returned (.bool true) ∧ Below w.heap.size w w' :=
  run_true (E := envI []) (xs := #[]) (by kernel_rfl) fnil' (okTab (envI []) [] fnil') (VRs.nil_iff.2 rfl) alive14_run Tryz.call14
end Go.Proofs.YtdimeaooekhkhaaGreat.AX
