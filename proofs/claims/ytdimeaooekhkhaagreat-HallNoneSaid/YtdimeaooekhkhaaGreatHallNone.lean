/- Proved: the call of HallNone, at whatever step it is handed: true, and nothing that lay there turns. Condition: the argument is a struct of 22 values of one cell each. -/
import Derived.Test.YtdimeaooekhkhaaGreatHallNoneRun
import Derived.WideShapes
set_option linter.unusedVariables false
namespace Go.Proofs.YtdimeaooekhkhaaGreat.AX
open Go.RowKit Go.Proofs
theorem cell_one {P : Program} {w : World} {r : Reach} {base t : Nat} {v : Value} (h : Cell.okWide P w r base t v) : v.oneCell' = true := by
  cases v
  case agg cs => exfalso; unfold Cell.okWide at h; split at h <;> simp_all [Cell.ok]
  case tuple cs => exfalso; unfold Cell.okWide at h; split at h <;> simp_all [Cell.ok]
  all_goals rfl
/-- a struct of 22 values of one cell each -/
def Arg0 (v : Value) : Prop := ∃ l : List Value, v = .agg ⟨l⟩ ∧ l.length = 22 ∧ ∀ u ∈ l, u.oneCell' = true
theorem arg_cells {P : Program} {W : World} {base t n : Nat} {v : Value} (h : Value.okWide P W .any base t v) {fs : Array Field} (hu : P.underlying t = some (.struct fs)) (hn : P.cellsOf t = n) : ∃ l : List Value, v = .agg ⟨l⟩ ∧ l.length = n ∧ ∀ u ∈ l, u.oneCell' = true := by
  unfold Value.okWide at h
  simp only [hu] at h
  obtain ⟨cs, rfl, h2, ts, _, _, h3⟩ := h
  obtain ⟨l⟩ := cs
  refine ⟨l, rfl, by rw [hn] at h2; simpa using h2, fun u hu => ?_⟩
  obtain ⟨i, hi, rfl⟩ := List.getElem_of_mem hu
  obtain ⟨q, _, h5⟩ := h3 i l[i] (by simp [hi])
  exact cell_one h5
set_option maxRecDepth 100000 in
theorem Arg0.of {W : World} {base : Nat} {v : Value} {X : Prop} (h : Value.okWide Tryz.prog W .any base 34 v) (_ : X) : Arg0 v :=
  arg_cells h Tryz.underlying34 (by kernel_rfl)
theorem opq_VRs {E : Env} {ρ : Ren} : ∀ (l : List Value) (k : Nat), (∀ i, i < l.length → E.opq (k + i) = l.getD i (.bool false)) → VRs E ρ ((List.range' k l.length).map .opq) l
  | [], k, h => trivial
  | x :: l, k, h => by
    refine ⟨?_, ?_⟩
    · have := h 0 (by simp)
      show x = E.opq k
      rw [show E.opq k = E.opq (k + 0) from rfl, this]; rfl
    · refine opq_VRs l (k + 1) fun i hi => ?_
      have := h (i + 1) (by simp; omega)
      rw [show k + 1 + i = k + (i + 1) by omega, this]; rfl
theorem hallNone_walk (W : World) (v : Value) (h : Arg0 v) : Calls Tryz.prog 5 #[v] W fun e w' => e = .returned (.bool true) ∧ Below W.heap.size W w' := by
  obtain ⟨l, rfl, hl, ho⟩ := h
  let E : Env := ⟨fun _ => 0, fun i => l.getD i (.bool false), fun i => by
    rw [List.getD_eq_getElem?_getD]
    cases hi : l[i]? with
    | none => rfl
    | some u => exact ho u (List.mem_of_getElem? hi)⟩
  refine run_true (E := E) (by kernel_rfl) (fun f hf => by cases hf) (okTab E) ?_ hallNone_run Tryz.call5
  refine ⟨⟨⟨l⟩, rfl, ?_⟩, trivial⟩
  have := opq_VRs (E := E) (ρ := fun _ => none) l 0 fun i hi => by rw [Nat.zero_add]
  rw [hl] at this
  exact this
end Go.Proofs.YtdimeaooekhkhaaGreat.AX
