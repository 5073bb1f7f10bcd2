/- Proved: runs of the law HallStocks, part 2: each under what is known of its numbers. -/
import Derived.Test.YtdimeaooekhkhaaGreatHallStocksT
import Derived.KernelRfl
set_option linter.unusedVariables false
namespace Go.Proofs.YtdimeaooekhkhaaGreat.AX.HallStocks
open Go.RowKit Go.Proofs
noncomputable def F_t_8 : List Fact := [.lt (.var 0) (.lit 0) false, .lt (.lit 1099511627776) (.var 0) false, .lt (.var 1) (.lit 0) false, .lt (.lit 1099511627776) (.var 1) false, .lt (.var 2) (.lit 0) false, .lt (.lit 1099511627776) (.var 2) false, .lt (.var 0) (.lit (-1152921504606846976)) false, .lt (.lit 1152921504606846976) (.var 0) false, .fit .i64 (.var 0), .eq (.var 0) (.lit 0) false, .fit .i64 (.sub (.lit 0) (.var 1)), .fit .i64 (.sub (.var 0) (.var 1)), .fit .i64 (.add (.sub (.var 0) (.var 1)) (.var 2)), .lt (.add (.sub (.var 0) (.var 1)) (.var 2)) (.lit 0) true]
theorem leaf_t_8 : saysTrue (run (tabL F_t_8) F_t_8 100 4 [.sym .i64 (.var 0), .sym .i64 (.var 1), .sym .i64 (.var 2), .bool true] ⟨.lf, 0⟩) = true := by kernel_rfl
noncomputable def F_t_9 : List Fact := [.lt (.var 0) (.lit 0) false, .lt (.lit 1099511627776) (.var 0) false, .lt (.var 1) (.lit 0) false, .lt (.lit 1099511627776) (.var 1) false, .lt (.var 2) (.lit 0) false, .lt (.lit 1099511627776) (.var 2) false, .lt (.var 0) (.lit (-1152921504606846976)) false, .lt (.lit 1152921504606846976) (.var 0) false, .fit .i64 (.var 0), .eq (.var 0) (.lit 0) false, .fit .i64 (.sub (.lit 0) (.var 1)), .fit .i64 (.sub (.var 0) (.var 1)), .fit .i64 (.add (.sub (.var 0) (.var 1)) (.var 2)), .lt (.add (.sub (.var 0) (.var 1)) (.var 2)) (.lit 0) false]
theorem leaf_t_9 : saysTrue (run (tabL F_t_9) F_t_9 100 4 [.sym .i64 (.var 0), .sym .i64 (.var 1), .sym .i64 (.var 2), .bool true] ⟨.lf, 0⟩) = true := by kernel_rfl
noncomputable def F_f_0 : List Fact := [.lt (.var 0) (.lit 0) true]
theorem leaf_f_0 : saysTrue (run (tabL F_f_0) F_f_0 100 4 [.sym .i64 (.var 0), .sym .i64 (.var 1), .sym .i64 (.var 2), .bool false] ⟨.lf, 0⟩) = true := by kernel_rfl
noncomputable def F_f_1 : List Fact := [.lt (.var 0) (.lit 0) false, .lt (.lit 1099511627776) (.var 0) true]
theorem leaf_f_1 : saysTrue (run (tabL F_f_1) F_f_1 100 4 [.sym .i64 (.var 0), .sym .i64 (.var 1), .sym .i64 (.var 2), .bool false] ⟨.lf, 0⟩) = true := by kernel_rfl
noncomputable def F_f_2 : List Fact := [.lt (.var 0) (.lit 0) false, .lt (.lit 1099511627776) (.var 0) false, .lt (.var 1) (.lit 0) true]
theorem leaf_f_2 : saysTrue (run (tabL F_f_2) F_f_2 100 4 [.sym .i64 (.var 0), .sym .i64 (.var 1), .sym .i64 (.var 2), .bool false] ⟨.lf, 0⟩) = true := by kernel_rfl
noncomputable def F_f_3 : List Fact := [.lt (.var 0) (.lit 0) false, .lt (.lit 1099511627776) (.var 0) false, .lt (.var 1) (.lit 0) false, .lt (.lit 1099511627776) (.var 1) true]
theorem leaf_f_3 : saysTrue (run (tabL F_f_3) F_f_3 100 4 [.sym .i64 (.var 0), .sym .i64 (.var 1), .sym .i64 (.var 2), .bool false] ⟨.lf, 0⟩) = true := by kernel_rfl
noncomputable def F_f_4 : List Fact := [.lt (.var 0) (.lit 0) false, .lt (.lit 1099511627776) (.var 0) false, .lt (.var 1) (.lit 0) false, .lt (.lit 1099511627776) (.var 1) false, .lt (.var 2) (.lit 0) true]
theorem leaf_f_4 : saysTrue (run (tabL F_f_4) F_f_4 100 4 [.sym .i64 (.var 0), .sym .i64 (.var 1), .sym .i64 (.var 2), .bool false] ⟨.lf, 0⟩) = true := by kernel_rfl
noncomputable def F_f_5 : List Fact := [.lt (.var 0) (.lit 0) false, .lt (.lit 1099511627776) (.var 0) false, .lt (.var 1) (.lit 0) false, .lt (.lit 1099511627776) (.var 1) false, .lt (.var 2) (.lit 0) false, .lt (.lit 1099511627776) (.var 2) true]
theorem leaf_f_5 : saysTrue (run (tabL F_f_5) F_f_5 100 4 [.sym .i64 (.var 0), .sym .i64 (.var 1), .sym .i64 (.var 2), .bool false] ⟨.lf, 0⟩) = true := by kernel_rfl
end Go.Proofs.YtdimeaooekhkhaaGreat.AX.HallStocks
