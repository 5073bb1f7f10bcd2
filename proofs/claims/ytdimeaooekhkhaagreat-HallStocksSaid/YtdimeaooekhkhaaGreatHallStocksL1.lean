/- Proved: runs of the law HallStocks, part 1: each under what is known of its numbers. -/
import Derived.Test.YtdimeaooekhkhaaGreatHallStocksT
import Derived.KernelRfl
set_option linter.unusedVariables false
namespace Go.Proofs.YtdimeaooekhkhaaGreat.AX.HallStocks
open Go.RowKit Go.Proofs
noncomputable def F_t_0 : List Fact := [.lt (.var 0) (.lit 0) true]
theorem leaf_t_0 : saysTrue (run (tabL F_t_0) F_t_0 100 4 [.sym .i64 (.var 0), .sym .i64 (.var 1), .sym .i64 (.var 2), .bool true] ⟨.lf, 0⟩) = true := by kernel_rfl
noncomputable def F_t_1 : List Fact := [.lt (.var 0) (.lit 0) false, .lt (.lit 1099511627776) (.var 0) true]
theorem leaf_t_1 : saysTrue (run (tabL F_t_1) F_t_1 100 4 [.sym .i64 (.var 0), .sym .i64 (.var 1), .sym .i64 (.var 2), .bool true] ⟨.lf, 0⟩) = true := by kernel_rfl
noncomputable def F_t_2 : List Fact := [.lt (.var 0) (.lit 0) false, .lt (.lit 1099511627776) (.var 0) false, .lt (.var 1) (.lit 0) true]
theorem leaf_t_2 : saysTrue (run (tabL F_t_2) F_t_2 100 4 [.sym .i64 (.var 0), .sym .i64 (.var 1), .sym .i64 (.var 2), .bool true] ⟨.lf, 0⟩) = true := by kernel_rfl
noncomputable def F_t_3 : List Fact := [.lt (.var 0) (.lit 0) false, .lt (.lit 1099511627776) (.var 0) false, .lt (.var 1) (.lit 0) false, .lt (.lit 1099511627776) (.var 1) true]
theorem leaf_t_3 : saysTrue (run (tabL F_t_3) F_t_3 100 4 [.sym .i64 (.var 0), .sym .i64 (.var 1), .sym .i64 (.var 2), .bool true] ⟨.lf, 0⟩) = true := by kernel_rfl
noncomputable def F_t_4 : List Fact := [.lt (.var 0) (.lit 0) false, .lt (.lit 1099511627776) (.var 0) false, .lt (.var 1) (.lit 0) false, .lt (.lit 1099511627776) (.var 1) false, .lt (.var 2) (.lit 0) true]
theorem leaf_t_4 : saysTrue (run (tabL F_t_4) F_t_4 100 4 [.sym .i64 (.var 0), .sym .i64 (.var 1), .sym .i64 (.var 2), .bool true] ⟨.lf, 0⟩) = true := by kernel_rfl
noncomputable def F_t_5 : List Fact := [.lt (.var 0) (.lit 0) false, .lt (.lit 1099511627776) (.var 0) false, .lt (.var 1) (.lit 0) false, .lt (.lit 1099511627776) (.var 1) false, .lt (.var 2) (.lit 0) false, .lt (.lit 1099511627776) (.var 2) true]
theorem leaf_t_5 : saysTrue (run (tabL F_t_5) F_t_5 100 4 [.sym .i64 (.var 0), .sym .i64 (.var 1), .sym .i64 (.var 2), .bool true] ⟨.lf, 0⟩) = true := by kernel_rfl
noncomputable def F_t_6 : List Fact := [.lt (.var 0) (.lit 0) false, .lt (.lit 1099511627776) (.var 0) false, .lt (.var 1) (.lit 0) false, .lt (.lit 1099511627776) (.var 1) false, .lt (.var 2) (.lit 0) false, .lt (.lit 1099511627776) (.var 2) false, .lt (.var 0) (.lit (-1152921504606846976)) false, .lt (.lit 1152921504606846976) (.var 0) false, .fit .i64 (.var 0), .eq (.var 0) (.lit 0) true, .fit .i64 (.sub (.lit 0) (.var 1)), .fit .i64 (.sub (.var 0) (.var 1)), .fit .i64 (.add (.sub (.var 0) (.var 1)) (.var 2)), .lt (.add (.sub (.var 0) (.var 1)) (.var 2)) (.lit 0) true]
theorem leaf_t_6 : saysTrue (run (tabL F_t_6) F_t_6 100 4 [.sym .i64 (.var 0), .sym .i64 (.var 1), .sym .i64 (.var 2), .bool true] ⟨.lf, 0⟩) = true := by kernel_rfl
noncomputable def F_t_7 : List Fact := [.lt (.var 0) (.lit 0) false, .lt (.lit 1099511627776) (.var 0) false, .lt (.var 1) (.lit 0) false, .lt (.lit 1099511627776) (.var 1) false, .lt (.var 2) (.lit 0) false, .lt (.lit 1099511627776) (.var 2) false, .lt (.var 0) (.lit (-1152921504606846976)) false, .lt (.lit 1152921504606846976) (.var 0) false, .fit .i64 (.var 0), .eq (.var 0) (.lit 0) true, .fit .i64 (.sub (.lit 0) (.var 1)), .fit .i64 (.sub (.var 0) (.var 1)), .fit .i64 (.add (.sub (.var 0) (.var 1)) (.var 2)), .lt (.add (.sub (.var 0) (.var 1)) (.var 2)) (.lit 0) false]
theorem leaf_t_7 : saysTrue (run (tabL F_t_7) F_t_7 100 4 [.sym .i64 (.var 0), .sym .i64 (.var 1), .sym .i64 (.var 2), .bool true] ⟨.lf, 0⟩) = true := by kernel_rfl
end Go.Proofs.YtdimeaooekhkhaaGreat.AX.HallStocks
