/- Proved: the call of HallStocks, whatever its numbers: true, and nothing that lay there turns: each number within 64 bits. -/
import Derived.Test.YtdimeaooekhkhaaGreatHallStocksL1
import Derived.Test.YtdimeaooekhkhaaGreatHallStocksL2
import Derived.Test.YtdimeaooekhkhaaGreatHallStocksL3
set_option linter.unusedVariables false
namespace Go.Proofs.YtdimeaooekhkhaaGreat.AX.HallStocks
open Go.RowKit Go.Proofs
set_option maxRecDepth 100000 in
theorem law_t (W : World) (a0 : Int) (h0 : -9223372036854775808 ≤ a0 ∧ a0 ≤ 9223372036854775807) (a1 : Int) (h1 : -9223372036854775808 ≤ a1 ∧ a1 ≤ 9223372036854775807) (a2 : Int) (h2 : -9223372036854775808 ≤ a2 ∧ a2 ≤ 9223372036854775807) : Calls Tryz.prog 4 #[.int .i64 a0, .int .i64 a1, .int .i64 a2, .bool true] W fun e w' => e = .returned (.bool true) ∧ Below W.heap.size W w' := by
  by_cases c0 : a0 < 0
  ·
    have hF : FactsOK (envI [a0, a1, a2]) F_t_0 := (fcons (ltY (show a0 < 0 from by omega)) fnil')
    exact run_true (E := (envI [a0, a1, a2])) hm hF (okL _ _ hF) (by exact ⟨rfl, rfl, rfl, rfl, trivial⟩) leaf_t_0 Tryz.call4
  ·
    by_cases c1 : 1099511627776 < a0
    ·
      have hF : FactsOK (envI [a0, a1, a2]) F_t_1 := (fcons (ltN (show ¬ (a0 < 0) from by omega)) (fcons (ltY (show 1099511627776 < a0 from by omega)) fnil'))
      exact run_true (E := (envI [a0, a1, a2])) hm hF (okL _ _ hF) (by exact ⟨rfl, rfl, rfl, rfl, trivial⟩) leaf_t_1 Tryz.call4
    ·
      by_cases c2 : a1 < 0
      ·
        have hF : FactsOK (envI [a0, a1, a2]) F_t_2 := (fcons (ltN (show ¬ (a0 < 0) from by omega)) (fcons (ltN (show ¬ (1099511627776 < a0) from by omega)) (fcons (ltY (show a1 < 0 from by omega)) fnil')))
        exact run_true (E := (envI [a0, a1, a2])) hm hF (okL _ _ hF) (by exact ⟨rfl, rfl, rfl, rfl, trivial⟩) leaf_t_2 Tryz.call4
      ·
        by_cases c3 : 1099511627776 < a1
        ·
          have hF : FactsOK (envI [a0, a1, a2]) F_t_3 := (fcons (ltN (show ¬ (a0 < 0) from by omega)) (fcons (ltN (show ¬ (1099511627776 < a0) from by omega)) (fcons (ltN (show ¬ (a1 < 0) from by omega)) (fcons (ltY (show 1099511627776 < a1 from by omega)) fnil'))))
          exact run_true (E := (envI [a0, a1, a2])) hm hF (okL _ _ hF) (by exact ⟨rfl, rfl, rfl, rfl, trivial⟩) leaf_t_3 Tryz.call4
        ·
          by_cases c4 : a2 < 0
          ·
            have hF : FactsOK (envI [a0, a1, a2]) F_t_4 := (fcons (ltN (show ¬ (a0 < 0) from by omega)) (fcons (ltN (show ¬ (1099511627776 < a0) from by omega)) (fcons (ltN (show ¬ (a1 < 0) from by omega)) (fcons (ltN (show ¬ (1099511627776 < a1) from by omega)) (fcons (ltY (show a2 < 0 from by omega)) fnil')))))
            exact run_true (E := (envI [a0, a1, a2])) hm hF (okL _ _ hF) (by exact ⟨rfl, rfl, rfl, rfl, trivial⟩) leaf_t_4 Tryz.call4
          ·
            by_cases c5 : 1099511627776 < a2
            ·
              have hF : FactsOK (envI [a0, a1, a2]) F_t_5 := (fcons (ltN (show ¬ (a0 < 0) from by omega)) (fcons (ltN (show ¬ (1099511627776 < a0) from by omega)) (fcons (ltN (show ¬ (a1 < 0) from by omega)) (fcons (ltN (show ¬ (1099511627776 < a1) from by omega)) (fcons (ltN (show ¬ (a2 < 0) from by omega)) (fcons (ltY (show 1099511627776 < a2 from by omega)) fnil'))))))
              exact run_true (E := (envI [a0, a1, a2])) hm hF (okL _ _ hF) (by exact ⟨rfl, rfl, rfl, rfl, trivial⟩) leaf_t_5 Tryz.call4
            ·
              by_cases c9 : a0 = 0
              ·
                by_cases c13 : ((a0 - a1) + a2) < 0
                ·
                  have hF : FactsOK (envI [a0, a1, a2]) F_t_6 := (fcons (ltN (show ¬ (a0 < 0) from by omega)) (fcons (ltN (show ¬ (1099511627776 < a0) from by omega)) (fcons (ltN (show ¬ (a1 < 0) from by omega)) (fcons (ltN (show ¬ (1099511627776 < a1) from by omega)) (fcons (ltN (show ¬ (a2 < 0) from by omega)) (fcons (ltN (show ¬ (1099511627776 < a2) from by omega)) (fcons (ltN (show ¬ (a0 < (-1152921504606846976)) from by omega)) (fcons (ltN (show ¬ (1152921504606846976 < a0) from by omega)) (fcons (fit64Y (show (-9223372036854775808) ≤ a0 ∧ a0 < 9223372036854775808 from by omega)) (fcons (eqY (show a0 = 0 from by omega)) (fcons (fit64Y (show (-9223372036854775808) ≤ (0 - a1) ∧ (0 - a1) < 9223372036854775808 from by omega)) (fcons (fit64Y (show (-9223372036854775808) ≤ (a0 - a1) ∧ (a0 - a1) < 9223372036854775808 from by omega)) (fcons (fit64Y (show (-9223372036854775808) ≤ ((a0 - a1) + a2) ∧ ((a0 - a1) + a2) < 9223372036854775808 from by omega)) (fcons (ltY (show ((a0 - a1) + a2) < 0 from by omega)) fnil'))))))))))))))
                  exact run_true (E := (envI [a0, a1, a2])) hm hF (okL _ _ hF) (by exact ⟨rfl, rfl, rfl, rfl, trivial⟩) leaf_t_6 Tryz.call4
                ·
                  have hF : FactsOK (envI [a0, a1, a2]) F_t_7 := (fcons (ltN (show ¬ (a0 < 0) from by omega)) (fcons (ltN (show ¬ (1099511627776 < a0) from by omega)) (fcons (ltN (show ¬ (a1 < 0) from by omega)) (fcons (ltN (show ¬ (1099511627776 < a1) from by omega)) (fcons (ltN (show ¬ (a2 < 0) from by omega)) (fcons (ltN (show ¬ (1099511627776 < a2) from by omega)) (fcons (ltN (show ¬ (a0 < (-1152921504606846976)) from by omega)) (fcons (ltN (show ¬ (1152921504606846976 < a0) from by omega)) (fcons (fit64Y (show (-9223372036854775808) ≤ a0 ∧ a0 < 9223372036854775808 from by omega)) (fcons (eqY (show a0 = 0 from by omega)) (fcons (fit64Y (show (-9223372036854775808) ≤ (0 - a1) ∧ (0 - a1) < 9223372036854775808 from by omega)) (fcons (fit64Y (show (-9223372036854775808) ≤ (a0 - a1) ∧ (a0 - a1) < 9223372036854775808 from by omega)) (fcons (fit64Y (show (-9223372036854775808) ≤ ((a0 - a1) + a2) ∧ ((a0 - a1) + a2) < 9223372036854775808 from by omega)) (fcons (ltN (show ¬ (((a0 - a1) + a2) < 0) from by omega)) fnil'))))))))))))))
                  exact run_true (E := (envI [a0, a1, a2])) hm hF (okL _ _ hF) (by exact ⟨rfl, rfl, rfl, rfl, trivial⟩) leaf_t_7 Tryz.call4
              ·
                by_cases c13 : ((a0 - a1) + a2) < 0
                ·
                  have hF : FactsOK (envI [a0, a1, a2]) F_t_8 := (fcons (ltN (show ¬ (a0 < 0) from by omega)) (fcons (ltN (show ¬ (1099511627776 < a0) from by omega)) (fcons (ltN (show ¬ (a1 < 0) from by omega)) (fcons (ltN (show ¬ (1099511627776 < a1) from by omega)) (fcons (ltN (show ¬ (a2 < 0) from by omega)) (fcons (ltN (show ¬ (1099511627776 < a2) from by omega)) (fcons (ltN (show ¬ (a0 < (-1152921504606846976)) from by omega)) (fcons (ltN (show ¬ (1152921504606846976 < a0) from by omega)) (fcons (fit64Y (show (-9223372036854775808) ≤ a0 ∧ a0 < 9223372036854775808 from by omega)) (fcons (eqN (show ¬ (a0 = 0) from by omega)) (fcons (fit64Y (show (-9223372036854775808) ≤ (0 - a1) ∧ (0 - a1) < 9223372036854775808 from by omega)) (fcons (fit64Y (show (-9223372036854775808) ≤ (a0 - a1) ∧ (a0 - a1) < 9223372036854775808 from by omega)) (fcons (fit64Y (show (-9223372036854775808) ≤ ((a0 - a1) + a2) ∧ ((a0 - a1) + a2) < 9223372036854775808 from by omega)) (fcons (ltY (show ((a0 - a1) + a2) < 0 from by omega)) fnil'))))))))))))))
                  exact run_true (E := (envI [a0, a1, a2])) hm hF (okL _ _ hF) (by exact ⟨rfl, rfl, rfl, rfl, trivial⟩) leaf_t_8 Tryz.call4
                ·
                  have hF : FactsOK (envI [a0, a1, a2]) F_t_9 := (fcons (ltN (show ¬ (a0 < 0) from by omega)) (fcons (ltN (show ¬ (1099511627776 < a0) from by omega)) (fcons (ltN (show ¬ (a1 < 0) from by omega)) (fcons (ltN (show ¬ (1099511627776 < a1) from by omega)) (fcons (ltN (show ¬ (a2 < 0) from by omega)) (fcons (ltN (show ¬ (1099511627776 < a2) from by omega)) (fcons (ltN (show ¬ (a0 < (-1152921504606846976)) from by omega)) (fcons (ltN (show ¬ (1152921504606846976 < a0) from by omega)) (fcons (fit64Y (show (-9223372036854775808) ≤ a0 ∧ a0 < 9223372036854775808 from by omega)) (fcons (eqN (show ¬ (a0 = 0) from by omega)) (fcons (fit64Y (show (-9223372036854775808) ≤ (0 - a1) ∧ (0 - a1) < 9223372036854775808 from by omega)) (fcons (fit64Y (show (-9223372036854775808) ≤ (a0 - a1) ∧ (a0 - a1) < 9223372036854775808 from by omega)) (fcons (fit64Y (show (-9223372036854775808) ≤ ((a0 - a1) + a2) ∧ ((a0 - a1) + a2) < 9223372036854775808 from by omega)) (fcons (ltN (show ¬ (((a0 - a1) + a2) < 0) from by omega)) fnil'))))))))))))))
                  exact run_true (E := (envI [a0, a1, a2])) hm hF (okL _ _ hF) (by exact ⟨rfl, rfl, rfl, rfl, trivial⟩) leaf_t_9 Tryz.call4

set_option maxRecDepth 100000 in
theorem law_f (W : World) (a0 : Int) (h0 : -9223372036854775808 ≤ a0 ∧ a0 ≤ 9223372036854775807) (a1 : Int) (h1 : -9223372036854775808 ≤ a1 ∧ a1 ≤ 9223372036854775807) (a2 : Int) (h2 : -9223372036854775808 ≤ a2 ∧ a2 ≤ 9223372036854775807) : Calls Tryz.prog 4 #[.int .i64 a0, .int .i64 a1, .int .i64 a2, .bool false] W fun e w' => e = .returned (.bool true) ∧ Below W.heap.size W w' := by
  by_cases c0 : a0 < 0
  ·
    have hF : FactsOK (envI [a0, a1, a2]) F_f_0 := (fcons (ltY (show a0 < 0 from by omega)) fnil')
    exact run_true (E := (envI [a0, a1, a2])) hm hF (okL _ _ hF) (by exact ⟨rfl, rfl, rfl, rfl, trivial⟩) leaf_f_0 Tryz.call4
  ·
    by_cases c1 : 1099511627776 < a0
    ·
      have hF : FactsOK (envI [a0, a1, a2]) F_f_1 := (fcons (ltN (show ¬ (a0 < 0) from by omega)) (fcons (ltY (show 1099511627776 < a0 from by omega)) fnil'))
      exact run_true (E := (envI [a0, a1, a2])) hm hF (okL _ _ hF) (by exact ⟨rfl, rfl, rfl, rfl, trivial⟩) leaf_f_1 Tryz.call4
    ·
      by_cases c2 : a1 < 0
      ·
        have hF : FactsOK (envI [a0, a1, a2]) F_f_2 := (fcons (ltN (show ¬ (a0 < 0) from by omega)) (fcons (ltN (show ¬ (1099511627776 < a0) from by omega)) (fcons (ltY (show a1 < 0 from by omega)) fnil')))
        exact run_true (E := (envI [a0, a1, a2])) hm hF (okL _ _ hF) (by exact ⟨rfl, rfl, rfl, rfl, trivial⟩) leaf_f_2 Tryz.call4
      ·
        by_cases c3 : 1099511627776 < a1
        ·
          have hF : FactsOK (envI [a0, a1, a2]) F_f_3 := (fcons (ltN (show ¬ (a0 < 0) from by omega)) (fcons (ltN (show ¬ (1099511627776 < a0) from by omega)) (fcons (ltN (show ¬ (a1 < 0) from by omega)) (fcons (ltY (show 1099511627776 < a1 from by omega)) fnil'))))
          exact run_true (E := (envI [a0, a1, a2])) hm hF (okL _ _ hF) (by exact ⟨rfl, rfl, rfl, rfl, trivial⟩) leaf_f_3 Tryz.call4
        ·
          by_cases c4 : a2 < 0
          ·
            have hF : FactsOK (envI [a0, a1, a2]) F_f_4 := (fcons (ltN (show ¬ (a0 < 0) from by omega)) (fcons (ltN (show ¬ (1099511627776 < a0) from by omega)) (fcons (ltN (show ¬ (a1 < 0) from by omega)) (fcons (ltN (show ¬ (1099511627776 < a1) from by omega)) (fcons (ltY (show a2 < 0 from by omega)) fnil')))))
            exact run_true (E := (envI [a0, a1, a2])) hm hF (okL _ _ hF) (by exact ⟨rfl, rfl, rfl, rfl, trivial⟩) leaf_f_4 Tryz.call4
          ·
            by_cases c5 : 1099511627776 < a2
            ·
              have hF : FactsOK (envI [a0, a1, a2]) F_f_5 := (fcons (ltN (show ¬ (a0 < 0) from by omega)) (fcons (ltN (show ¬ (1099511627776 < a0) from by omega)) (fcons (ltN (show ¬ (a1 < 0) from by omega)) (fcons (ltN (show ¬ (1099511627776 < a1) from by omega)) (fcons (ltN (show ¬ (a2 < 0) from by omega)) (fcons (ltY (show 1099511627776 < a2 from by omega)) fnil'))))))
              exact run_true (E := (envI [a0, a1, a2])) hm hF (okL _ _ hF) (by exact ⟨rfl, rfl, rfl, rfl, trivial⟩) leaf_f_5 Tryz.call4
            ·
              by_cases c9 : a0 = 0
              ·
                by_cases c14 : 0 < ((0 - a1) + a2)
                ·
                  have hF : FactsOK (envI [a0, a1, a2]) F_f_6 := (fcons (ltN (show ¬ (a0 < 0) from by omega)) (fcons (ltN (show ¬ (1099511627776 < a0) from by omega)) (fcons (ltN (show ¬ (a1 < 0) from by omega)) (fcons (ltN (show ¬ (1099511627776 < a1) from by omega)) (fcons (ltN (show ¬ (a2 < 0) from by omega)) (fcons (ltN (show ¬ (1099511627776 < a2) from by omega)) (fcons (ltN (show ¬ (a0 < (-1152921504606846976)) from by omega)) (fcons (ltN (show ¬ (1152921504606846976 < a0) from by omega)) (fcons (fit64Y (show (-9223372036854775808) ≤ a0 ∧ a0 < 9223372036854775808 from by omega)) (fcons (eqY (show a0 = 0 from by omega)) (fcons (fit64Y (show (-9223372036854775808) ≤ (0 - a1) ∧ (0 - a1) < 9223372036854775808 from by omega)) (fcons (fit64Y (show (-9223372036854775808) ≤ a2 ∧ a2 < 9223372036854775808 from by omega)) (fcons (ltN (show ¬ (((0 - a1) + a2) < (-1152921504606846976)) from by omega)) (fcons (ltN (show ¬ (1152921504606846976 < ((0 - a1) + a2)) from by omega)) (fcons (ltY (show 0 < ((0 - a1) + a2) from by omega)) (fcons (fit64Y (show (-9223372036854775808) ≤ (a0 - a1) ∧ (a0 - a1) < 9223372036854775808 from by omega)) (fcons (fit64Y (show (-9223372036854775808) ≤ ((a0 - a1) + a2) ∧ ((a0 - a1) + a2) < 9223372036854775808 from by omega)) (fcons (ltN (show ¬ (((a0 - a1) + a2) < 0) from by omega)) (fcons (eqN (show ¬ (((a0 - a1) + a2) = 0) from by omega)) (fcons (eqY (show ((0 - a1) + a2) = ((a0 - a1) + a2) from by omega)) fnil'))))))))))))))))))))
                  exact run_true (E := (envI [a0, a1, a2])) hm hF (okL _ _ hF) (by exact ⟨rfl, rfl, rfl, rfl, trivial⟩) leaf_f_6 Tryz.call4
                ·
                  by_cases c17 : ((a0 - a1) + a2) < 0
                  ·
                    have hF : FactsOK (envI [a0, a1, a2]) F_f_7 := (fcons (ltN (show ¬ (a0 < 0) from by omega)) (fcons (ltN (show ¬ (1099511627776 < a0) from by omega)) (fcons (ltN (show ¬ (a1 < 0) from by omega)) (fcons (ltN (show ¬ (1099511627776 < a1) from by omega)) (fcons (ltN (show ¬ (a2 < 0) from by omega)) (fcons (ltN (show ¬ (1099511627776 < a2) from by omega)) (fcons (ltN (show ¬ (a0 < (-1152921504606846976)) from by omega)) (fcons (ltN (show ¬ (1152921504606846976 < a0) from by omega)) (fcons (fit64Y (show (-9223372036854775808) ≤ a0 ∧ a0 < 9223372036854775808 from by omega)) (fcons (eqY (show a0 = 0 from by omega)) (fcons (fit64Y (show (-9223372036854775808) ≤ (0 - a1) ∧ (0 - a1) < 9223372036854775808 from by omega)) (fcons (fit64Y (show (-9223372036854775808) ≤ a2 ∧ a2 < 9223372036854775808 from by omega)) (fcons (ltN (show ¬ (((0 - a1) + a2) < (-1152921504606846976)) from by omega)) (fcons (ltN (show ¬ (1152921504606846976 < ((0 - a1) + a2)) from by omega)) (fcons (ltN (show ¬ (0 < ((0 - a1) + a2)) from by omega)) (fcons (fit64Y (show (-9223372036854775808) ≤ (a0 - a1) ∧ (a0 - a1) < 9223372036854775808 from by omega)) (fcons (fit64Y (show (-9223372036854775808) ≤ ((a0 - a1) + a2) ∧ ((a0 - a1) + a2) < 9223372036854775808 from by omega)) (fcons (ltY (show ((a0 - a1) + a2) < 0 from by omega)) fnil'))))))))))))))))))
                    exact run_true (E := (envI [a0, a1, a2])) hm hF (okL _ _ hF) (by exact ⟨rfl, rfl, rfl, rfl, trivial⟩) leaf_f_7 Tryz.call4
                  ·
                    have hF : FactsOK (envI [a0, a1, a2]) F_f_8 := (fcons (ltN (show ¬ (a0 < 0) from by omega)) (fcons (ltN (show ¬ (1099511627776 < a0) from by omega)) (fcons (ltN (show ¬ (a1 < 0) from by omega)) (fcons (ltN (show ¬ (1099511627776 < a1) from by omega)) (fcons (ltN (show ¬ (a2 < 0) from by omega)) (fcons (ltN (show ¬ (1099511627776 < a2) from by omega)) (fcons (ltN (show ¬ (a0 < (-1152921504606846976)) from by omega)) (fcons (ltN (show ¬ (1152921504606846976 < a0) from by omega)) (fcons (fit64Y (show (-9223372036854775808) ≤ a0 ∧ a0 < 9223372036854775808 from by omega)) (fcons (eqY (show a0 = 0 from by omega)) (fcons (fit64Y (show (-9223372036854775808) ≤ (0 - a1) ∧ (0 - a1) < 9223372036854775808 from by omega)) (fcons (fit64Y (show (-9223372036854775808) ≤ a2 ∧ a2 < 9223372036854775808 from by omega)) (fcons (ltN (show ¬ (((0 - a1) + a2) < (-1152921504606846976)) from by omega)) (fcons (ltN (show ¬ (1152921504606846976 < ((0 - a1) + a2)) from by omega)) (fcons (ltN (show ¬ (0 < ((0 - a1) + a2)) from by omega)) (fcons (fit64Y (show (-9223372036854775808) ≤ (a0 - a1) ∧ (a0 - a1) < 9223372036854775808 from by omega)) (fcons (fit64Y (show (-9223372036854775808) ≤ ((a0 - a1) + a2) ∧ ((a0 - a1) + a2) < 9223372036854775808 from by omega)) (fcons (ltN (show ¬ (((a0 - a1) + a2) < 0) from by omega)) (fcons (eqY (show ((a0 - a1) + a2) = 0 from by omega)) fnil')))))))))))))))))))
                    exact run_true (E := (envI [a0, a1, a2])) hm hF (okL _ _ hF) (by exact ⟨rfl, rfl, rfl, rfl, trivial⟩) leaf_f_8 Tryz.call4
              ·
                by_cases c14 : 0 < ((a0 + (0 - a1)) + a2)
                ·
                  have hF : FactsOK (envI [a0, a1, a2]) F_f_9 := (fcons (ltN (show ¬ (a0 < 0) from by omega)) (fcons (ltN (show ¬ (1099511627776 < a0) from by omega)) (fcons (ltN (show ¬ (a1 < 0) from by omega)) (fcons (ltN (show ¬ (1099511627776 < a1) from by omega)) (fcons (ltN (show ¬ (a2 < 0) from by omega)) (fcons (ltN (show ¬ (1099511627776 < a2) from by omega)) (fcons (ltN (show ¬ (a0 < (-1152921504606846976)) from by omega)) (fcons (ltN (show ¬ (1152921504606846976 < a0) from by omega)) (fcons (fit64Y (show (-9223372036854775808) ≤ a0 ∧ a0 < 9223372036854775808 from by omega)) (fcons (eqN (show ¬ (a0 = 0) from by omega)) (fcons (fit64Y (show (-9223372036854775808) ≤ (0 - a1) ∧ (0 - a1) < 9223372036854775808 from by omega)) (fcons (fit64Y (show (-9223372036854775808) ≤ a2 ∧ a2 < 9223372036854775808 from by omega)) (fcons (ltN (show ¬ (((a0 + (0 - a1)) + a2) < (-1152921504606846976)) from by omega)) (fcons (ltN (show ¬ (1152921504606846976 < ((a0 + (0 - a1)) + a2)) from by omega)) (fcons (ltY (show 0 < ((a0 + (0 - a1)) + a2) from by omega)) (fcons (fit64Y (show (-9223372036854775808) ≤ (a0 - a1) ∧ (a0 - a1) < 9223372036854775808 from by omega)) (fcons (fit64Y (show (-9223372036854775808) ≤ ((a0 - a1) + a2) ∧ ((a0 - a1) + a2) < 9223372036854775808 from by omega)) (fcons (ltN (show ¬ (((a0 - a1) + a2) < 0) from by omega)) (fcons (eqN (show ¬ (((a0 - a1) + a2) = 0) from by omega)) (fcons (eqY (show ((a0 + (0 - a1)) + a2) = ((a0 - a1) + a2) from by omega)) fnil'))))))))))))))))))))
                  exact run_true (E := (envI [a0, a1, a2])) hm hF (okL _ _ hF) (by exact ⟨rfl, rfl, rfl, rfl, trivial⟩) leaf_f_9 Tryz.call4
                ·
                  by_cases c17 : ((a0 - a1) + a2) < 0
                  ·
                    have hF : FactsOK (envI [a0, a1, a2]) F_f_10 := (fcons (ltN (show ¬ (a0 < 0) from by omega)) (fcons (ltN (show ¬ (1099511627776 < a0) from by omega)) (fcons (ltN (show ¬ (a1 < 0) from by omega)) (fcons (ltN (show ¬ (1099511627776 < a1) from by omega)) (fcons (ltN (show ¬ (a2 < 0) from by omega)) (fcons (ltN (show ¬ (1099511627776 < a2) from by omega)) (fcons (ltN (show ¬ (a0 < (-1152921504606846976)) from by omega)) (fcons (ltN (show ¬ (1152921504606846976 < a0) from by omega)) (fcons (fit64Y (show (-9223372036854775808) ≤ a0 ∧ a0 < 9223372036854775808 from by omega)) (fcons (eqN (show ¬ (a0 = 0) from by omega)) (fcons (fit64Y (show (-9223372036854775808) ≤ (0 - a1) ∧ (0 - a1) < 9223372036854775808 from by omega)) (fcons (fit64Y (show (-9223372036854775808) ≤ a2 ∧ a2 < 9223372036854775808 from by omega)) (fcons (ltN (show ¬ (((a0 + (0 - a1)) + a2) < (-1152921504606846976)) from by omega)) (fcons (ltN (show ¬ (1152921504606846976 < ((a0 + (0 - a1)) + a2)) from by omega)) (fcons (ltN (show ¬ (0 < ((a0 + (0 - a1)) + a2)) from by omega)) (fcons (fit64Y (show (-9223372036854775808) ≤ (a0 - a1) ∧ (a0 - a1) < 9223372036854775808 from by omega)) (fcons (fit64Y (show (-9223372036854775808) ≤ ((a0 - a1) + a2) ∧ ((a0 - a1) + a2) < 9223372036854775808 from by omega)) (fcons (ltY (show ((a0 - a1) + a2) < 0 from by omega)) fnil'))))))))))))))))))
                    exact run_true (E := (envI [a0, a1, a2])) hm hF (okL _ _ hF) (by exact ⟨rfl, rfl, rfl, rfl, trivial⟩) leaf_f_10 Tryz.call4
                  ·
                    have hF : FactsOK (envI [a0, a1, a2]) F_f_11 := (fcons (ltN (show ¬ (a0 < 0) from by omega)) (fcons (ltN (show ¬ (1099511627776 < a0) from by omega)) (fcons (ltN (show ¬ (a1 < 0) from by omega)) (fcons (ltN (show ¬ (1099511627776 < a1) from by omega)) (fcons (ltN (show ¬ (a2 < 0) from by omega)) (fcons (ltN (show ¬ (1099511627776 < a2) from by omega)) (fcons (ltN (show ¬ (a0 < (-1152921504606846976)) from by omega)) (fcons (ltN (show ¬ (1152921504606846976 < a0) from by omega)) (fcons (fit64Y (show (-9223372036854775808) ≤ a0 ∧ a0 < 9223372036854775808 from by omega)) (fcons (eqN (show ¬ (a0 = 0) from by omega)) (fcons (fit64Y (show (-9223372036854775808) ≤ (0 - a1) ∧ (0 - a1) < 9223372036854775808 from by omega)) (fcons (fit64Y (show (-9223372036854775808) ≤ a2 ∧ a2 < 9223372036854775808 from by omega)) (fcons (ltN (show ¬ (((a0 + (0 - a1)) + a2) < (-1152921504606846976)) from by omega)) (fcons (ltN (show ¬ (1152921504606846976 < ((a0 + (0 - a1)) + a2)) from by omega)) (fcons (ltN (show ¬ (0 < ((a0 + (0 - a1)) + a2)) from by omega)) (fcons (fit64Y (show (-9223372036854775808) ≤ (a0 - a1) ∧ (a0 - a1) < 9223372036854775808 from by omega)) (fcons (fit64Y (show (-9223372036854775808) ≤ ((a0 - a1) + a2) ∧ ((a0 - a1) + a2) < 9223372036854775808 from by omega)) (fcons (ltN (show ¬ (((a0 - a1) + a2) < 0) from by omega)) (fcons (eqY (show ((a0 - a1) + a2) = 0 from by omega)) fnil')))))))))))))))))))
                    exact run_true (E := (envI [a0, a1, a2])) hm hF (okL _ _ hF) (by exact ⟨rfl, rfl, rfl, rfl, trivial⟩) leaf_f_11 Tryz.call4
theorem hallStocks_walk (W : World) (a0 : Int) (h0 : -9223372036854775808 ≤ a0 ∧ a0 ≤ 9223372036854775807) (a1 : Int) (h1 : -9223372036854775808 ≤ a1 ∧ a1 ≤ 9223372036854775807) (a2 : Int) (h2 : -9223372036854775808 ≤ a2 ∧ a2 ≤ 9223372036854775807) (b0 : Bool) : Calls Tryz.prog 4 #[.int .i64 a0, .int .i64 a1, .int .i64 a2, .bool b0] W fun e w' => e = .returned (.bool true) ∧ Below W.heap.size W w' := by
  cases b0 with
  | true =>
    exact law_t W a0 h0 a1 h1 a2 h2
  | false =>
    exact law_f W a0 h0 a1 h1 a2 h2
end Go.Proofs.YtdimeaooekhkhaaGreat.AX.HallStocks
