/- Proved: the functions that the runner does not run, at this dump. -/
import Derived.Test.YtdimeaooekhkhaaGreatSorts
import Derived.Test.YtdimeaooekhkhaaGreatAppend0
import Derived.Test.YtdimeaooekhkhaaGreatLaidC
import Derived.Test.YtdimeaooekhkhaaGreatAxLaw
import Derived.Test.YtdimeaooekhkhaaGreatAccAdd
import Derived.Shelf.Strconv.Clone
set_option linter.unusedVariables false
namespace Go.Proofs.YtdimeaooekhkhaaGreat.AX
open Go.RowKit Go.Maps Go.Sort Go.Shelf Go.Proofs
theorem e289 (E : Env) (fs : List Fact) (hF : FactsOK E fs) : EntOK Tryz.prog E (289, .ext xMapsClone) := ex (ext_clone fun xs w => run_callFunc_extern Tryz.func289 (by kernel_rfl) (by kernel_rfl) (by kernel_rfl) (by kernel_rfl) xs w)
theorem e192 (E : Env) (fs : List Fact) (hF : FactsOK E fs) : EntOK Tryz.prog E (192, .ext xAdd64) := ex (ext_add64 fun xs w => run_callFunc_extern Tryz.func192 (by kernel_rfl) (by kernel_rfl) (by kernel_rfl) (by kernel_rfl) xs w)
theorem e290 (E : Env) (fs : List Fact) (hF : FactsOK E fs) : EntOK Tryz.prog E (290, .ext xClone) := ex (ext_strClone Tryz.call290 fun s w h => Any.stringslite_Clone Tryz.clone290 s w h)
theorem e292 (E : Env) (fs : List Fact) (hF : FactsOK E fs) : EntOK Tryz.prog E (292, .ext (xSorted [362, 377, 387, 408, 409])) := ex (ext_sorted Tryz.underlying9 Tryz.call292 fun g hg => by
  simp only [List.mem_cons, List.not_mem_nil, or_false] at hg
  rcases hg with rfl | rfl | rfl | rfl | rfl
  · exact sorts_362
  · exact sorts_377
  · exact sorts_387
  · exact sorts_408
  · exact sorts_409)
theorem a388 : Appends0 Tryz.prog 388 [349, 379] [373] := by
  refine Appends0.mk (fun g hg w Bm h1 h2 => ?_) (fun g hg w Bm b clock h1 h2 h3 h4 => ?_)
  · simp only [List.mem_cons, List.not_mem_nil, or_false] at hg
    rcases hg with rfl | rfl
    · exact append0_388 349 _ Tryz.call349 w (nil_349 w Bm h1 h2)
    · exact append0_388 379 _ Tryz.call379 w (nil_379 w Bm h1 h2)
  · simp only [List.mem_cons, List.not_mem_nil, or_false] at hg
    subst hg
    exact append0_388 373 _ Tryz.call373 w (empty_373 w Bm b clock h1 h2 h3 h4)
theorem e388 (E : Env) (fs : List Fact) (hF : FactsOK E fs) : EntOK Tryz.prog E (388, .ext (xAppend0 [349, 379] [373])) := ex (ext_append0 Tryz.call388 a388)
theorem a407 : Appends0 Tryz.prog 407 [349, 379] [373] := by
  refine Appends0.mk (fun g hg w Bm h1 h2 => ?_) (fun g hg w Bm b clock h1 h2 h3 h4 => ?_)
  · simp only [List.mem_cons, List.not_mem_nil, or_false] at hg
    rcases hg with rfl | rfl
    · exact append0_407 349 _ Tryz.call349 w (nil_349 w Bm h1 h2)
    · exact append0_407 379 _ Tryz.call379 w (nil_379 w Bm h1 h2)
  · simp only [List.mem_cons, List.not_mem_nil, or_false] at hg
    subst hg
    exact append0_407 373 _ Tryz.call373 w (empty_373 w Bm b clock h1 h2 h3 h4)
theorem e407 (E : Env) (fs : List Fact) (hF : FactsOK E fs) : EntOK Tryz.prog E (407, .ext (xAppend0 [349, 379] [373])) := ex (ext_append0 Tryz.call407 a407)
theorem a410 : Appends0 Tryz.prog 410 [349, 379] [373] := by
  refine Appends0.mk (fun g hg w Bm h1 h2 => ?_) (fun g hg w Bm b clock h1 h2 h3 h4 => ?_)
  · simp only [List.mem_cons, List.not_mem_nil, or_false] at hg
    rcases hg with rfl | rfl
    · exact append0_410 349 _ Tryz.call349 w (nil_349 w Bm h1 h2)
    · exact append0_410 379 _ Tryz.call379 w (nil_379 w Bm h1 h2)
  · simp only [List.mem_cons, List.not_mem_nil, or_false] at hg
    subst hg
    exact append0_410 373 _ Tryz.call373 w (empty_373 w Bm b clock h1 h2 h3 h4)
theorem e410 (E : Env) (fs : List Fact) (hF : FactsOK E fs) : EntOK Tryz.prog E (410, .ext (xAppend0 [349, 379] [373])) := ex (ext_append0 Tryz.call410 a410)
theorem e89 (E : Env) (fs : List Fact) (hF : FactsOK E fs) : EntOK Tryz.prog E (89, .ext (xAccAdd fs)) := ex (ext_accAdd hF Tryz.call89 accAdd_any)
end Go.Proofs.YtdimeaooekhkhaaGreat.AX
