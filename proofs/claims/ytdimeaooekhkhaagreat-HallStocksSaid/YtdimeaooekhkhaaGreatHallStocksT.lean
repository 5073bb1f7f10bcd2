/- Proved: the table of functions for the law HallStocks: some are told, not run. -/
import Derived.Test.YtdimeaooekhkhaaGreatTab
import Derived.Test.YtdimeaooekhkhaaGreatAlive14
set_option linter.unusedVariables false
namespace Go.Proofs.YtdimeaooekhkhaaGreat.AX.HallStocks
open Go.RowKit Go.Proofs
noncomputable def tabL (fs : List Fact) : Tr XE := (tabTab fs).put 14 (some (.ext xTrue))
theorem okL (E : Env) (fs : List Fact) (hF : FactsOK E fs) : TabOK Tryz.prog E (tabL fs) := (tab_put (okTab E fs hF) (ext_true Tryz.call14 alive14))
theorem hm : Tryz.prog.follows .mixedOrders = true := by kernel_rfl
end Go.Proofs.YtdimeaooekhkhaaGreat.AX.HallStocks
