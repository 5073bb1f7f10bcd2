/- Proved: a table of functions, entry for entry. No function of the program is walked here. -/
import Derived.Test.YtdimeaooekhkhaaGreatAxApp
set_option linter.unusedVariables false
namespace Go.Proofs.YtdimeaooekhkhaaGreat.AX
open Go.RowKit
noncomputable def fromL (l : List (Nat × XE)) : Tr XE := lrec .lf (fun p t => t.put p.1 (some p.2)) l
def EntOK (P : Program) (E : Env) (p : Nat × XE) : Prop := match p.2 with
  | .code xf => ∃ fn, P.funcs[p.1]? = some fn ∧ compF P fn = some xf ∧ ∀ xs w, (callFunc p.1 xs).run P w = .ok (.enter p.1 xs) w
  | .ext g => ExtOK P E p.1 g
theorem fromL_ok {P : Program} {E : Env} : ∀ {l : List (Nat × XE)}, (∀ p ∈ l, EntOK P E p) → TabOK P E (fromL l)
  | [], _ => fun f e h => by cases h
  | p :: l, H => fun f e h => by
    have h : ((fromL l).put p.1 (some p.2)).get f = some e := h
    rw [get_put] at h
    split at h
    · rename_i hf
      have := H p (by simp)
      cases h
      subst hf
      exact this
    · exact fromL_ok (fun q hq => H q (by simp [hq])) f e h
theorem ec {P : Program} {E : Env} {f : Nat} {fn : Func} {xf : XF} (h1 : P.funcs[f]? = some fn) (h2 : compF P fn = some xf) (h3 : ∀ xs w, (callFunc f xs).run P w = .ok (.enter f xs) w) : EntOK P E (f, .code xf) := ⟨fn, h1, h2, h3⟩
theorem ex {P : Program} {E : Env} {f : Nat} {g : CallT → List AV → St → Out} (h : ExtOK P E f g) : EntOK P E (f, .ext g) := h
theorem fc {P : Program} {E : Env} {p : Nat × XE} {l : List (Nat × XE)} (h : EntOK P E p) (hl : ∀ q ∈ l, EntOK P E q) : ∀ q ∈ p :: l, EntOK P E q := fun q hq => by
  rcases List.mem_cons.1 hq with rfl | hq
  · exact h
  · exact hl q hq
theorem fnil {P : Program} {E : Env} : ∀ q ∈ ([] : List (Nat × XE)), EntOK P E q := fun q hq => by cases hq
theorem fapp {P : Program} {E : Env} {l m : List (Nat × XE)} (hl : ∀ q ∈ l, EntOK P E q) (hm : ∀ q ∈ m, EntOK P E q) : ∀ q ∈ l ++ m, EntOK P E q := fun q hq => by
  rcases List.mem_append.1 hq with h | h
  · exact hl q h
  · exact hm q h
/-- did it end with true? -/
noncomputable def saysTrue (x : Out) : Bool := match x with
  | .ok (.bool b, _) => b
  | _ => false
theorem saysTrue_ok {x : Out} (h : saysTrue x = true) : ∃ S, x = .ok (.bool true, S) := by
  unfold saysTrue at h
  split at h
  · rename_i b S; subst h; exact ⟨S, rfl⟩
  · cases h
/-- a run that begins with nothing in memory -/
theorem run_true {P : Program} {E : Env} {T : Tr XE} {fs : List Fact} {d f : Nat} {args : List AV} {xs : Array Value} {w : World} (hm : P.follows .mixedOrders = true) (hF : FactsOK E fs) (hT : TabOK P E T)
    (hx : VRs E (fun _ => none) args xs.toList) (hr : saysTrue (run T fs d f args ⟨.lf, 0⟩) = true) (he : ∀ xs w, (callFunc f xs).run P w = .ok (.enter f xs) w) :
    Calls P f xs w fun e w' => e = .returned (.bool true) ∧ Below w.heap.size w w' := by
  obtain ⟨S, hr⟩ := saysTrue_ok hr
  have hS : HR E w.heap.size (fun _ => none) ⟨.lf, 0⟩ w := by
    refine ⟨Nat.le_refl _, ?_, ?_, ?_, ?_⟩
    · intro b k g c h; cases h
    · intro b b' k k' g c c' h; cases h
    · intro b x h; cases h
    · intro b k h; cases h
  rcases run_ok hm hF hT d f args ⟨.lf, 0⟩ _ _ hr w.heap.size _ w xs hx hS with ⟨x, w', h1, _⟩ | ⟨_, h⟩
  · rw [he] at h1; cases h1
  · refine h.mono fun e w' he => ?_
    cases e with
    | returned x =>
      obtain ⟨ρ', hv, _, hb⟩ := he
      have hv : x = .bool true := hv
      subst hv
      exact ⟨rfl, hb.below⟩
    | panicked c => exact he.elim
    | outgrown => exact he.elim
end Go.Proofs.YtdimeaooekhkhaaGreat.AX
