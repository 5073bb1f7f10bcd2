/- Proved: closed facts of the row of HallNone. No function is walked here. -/
import Derived.Test.YtdimeaooekhkhaaGreatRows
import Derived.Test.YtdimeaooekhkhaaGreatFacts0
namespace Go.Proofs.YtdimeaooekhkhaaGreat.factsHallNone
open Go.Proofs.YtdimeaooekhkhaaGreat.facts
theorem k9 : ((Rows.hallNoneRow.inPlace == Tryz.prog.inPlace 5)) = true := by kernel_rfl
theorem k10 : ((Rows.hallNoneRow.unfollowed == Tryz.prog.unfollowed 5)) = true := by kernel_rfl
theorem k11 : ((Rows.hallNoneRow.recurses == Tryz.prog.recurses 5)) = true := by kernel_rfl
theorem k12 : ((Rows.hallNoneRow.named == Tryz.prog.varsNamed 5)) = true := by kernel_rfl
theorem k26 : ((Rows.hallNoneRow.lifted == Tryz.prog.liftsFinal)) = true := by kernel_rfl
theorem k27 : ((Tryz.prog.make == some Rows.hallNoneRow.make)) = true := by kernel_rfl
theorem closed : joinedFacts Tryz.prog 5 Tryz.f5 Rows.hallNoneSpec Rows.hallNoneRow = true :=
  joined_mk (by kernel_rfl) facts.k1 facts.k2 (by kernel_rfl) (by kernel_rfl) (by kernel_rfl) (by kernel_rfl) (by kernel_rfl) (by kernel_rfl) k9 k10 k11 k12 (by kernel_rfl) (by kernel_rfl) (by kernel_rfl) (by kernel_rfl) (by kernel_rfl) (by kernel_rfl) (by kernel_rfl) (by kernel_rfl) (by kernel_rfl) (by kernel_rfl) (by kernel_rfl) facts.k24 facts.k25 k26 k27 (by kernel_rfl) (by kernel_rfl) (by kernel_rfl) (by kernel_rfl)
end Go.Proofs.YtdimeaooekhkhaaGreat.factsHallNone
