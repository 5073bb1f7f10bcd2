/- Proved: closed facts of the row of HallStocks. No function is walked here. -/
import Derived.Test.YtdimeaooekhkhaaGreatRows
import Derived.Test.YtdimeaooekhkhaaGreatFacts0
namespace Go.Proofs.YtdimeaooekhkhaaGreat.factsHallStocks
open Go.Proofs.YtdimeaooekhkhaaGreat.facts
theorem k9 : ((Rows.hallStocksRow.inPlace == Tryz.prog.inPlace 4)) = true := by kernel_rfl
theorem k10 : ((Rows.hallStocksRow.unfollowed == Tryz.prog.unfollowed 4)) = true := by kernel_rfl
theorem k11 : ((Rows.hallStocksRow.recurses == Tryz.prog.recurses 4)) = true := by kernel_rfl
theorem k12 : ((Rows.hallStocksRow.named == Tryz.prog.varsNamed 4)) = true := by kernel_rfl
theorem k26 : ((Rows.hallStocksRow.lifted == Tryz.prog.liftsFinal)) = true := by kernel_rfl
theorem k27 : ((Tryz.prog.make == some Rows.hallStocksRow.make)) = true := by kernel_rfl
theorem closed : joinedFacts Tryz.prog 4 Tryz.f4 Rows.hallStocksSpec Rows.hallStocksRow = true :=
  joined_mk (by kernel_rfl) facts.k1 facts.k2 (by kernel_rfl) (by kernel_rfl) (by kernel_rfl) (by kernel_rfl) (by kernel_rfl) (by kernel_rfl) k9 k10 k11 k12 (by kernel_rfl) (by kernel_rfl) (by kernel_rfl) (by kernel_rfl) (by kernel_rfl) (by kernel_rfl) (by kernel_rfl) (by kernel_rfl) (by kernel_rfl) (by kernel_rfl) (by kernel_rfl) facts.k24 facts.k25 k26 k27 (by kernel_rfl) (by kernel_rfl) (by kernel_rfl) (by kernel_rfl)
end Go.Proofs.YtdimeaooekhkhaaGreat.factsHallStocks
