/- Proved: the call of HallNone is true at whatever struct of 22 cells, and nothing that lay there turns. Condition: the argument is a struct of 22 values of one cell each. -/
import Derived.Test.YtdimeaooekhkhaaGreatTab
import Derived.KernelRfl
namespace Go.Proofs.YtdimeaooekhkhaaGreat.AX
open Go.RowKit Go.Proofs
theorem hallNone_run : saysTrue (run tabTab [] 100 5 [.agg [.opq 0, .opq 1, .opq 2, .opq 3, .opq 4, .opq 5, .opq 6, .opq 7, .opq 8, .opq 9, .opq 10, .opq 11, .opq 12, .opq 13, .opq 14, .opq 15, .opq 16, .opq 17, .opq 18, .opq 19, .opq 20, .opq 21]] ⟨.lf, 0⟩) = true := by kernel_rfl
end Go.Proofs.YtdimeaooekhkhaaGreat.AX
