/- Proved: means to say what is known of the numbers, and a table with one function told instead of run. No function of the program is walked here. -/
import Derived.Test.YtdimeaooekhkhaaGreatAxMoney
set_option linter.unusedVariables false
namespace Go.Proofs.YtdimeaooekhkhaaGreat.AX
open Go.RowKit
noncomputable section
/-- a call that tells true, and turns nothing that lay there -/
def xTrue (_ : CallT) (args : List AV) (S : St) : Out := match args with
  | [] => rok (.bool true) S
  | _ => err "arguments"
/-- these numbers -/
def envI (l : List Int) : Env := ⟨fun i => l.getD i 0, fun _ => .bool false, fun _ => rfl⟩
end
theorem ext_true {P : Program} {E : Env} {f : Nat} (hf : ∀ xs w, (callFunc f xs).run P w = .ok (.enter f xs) w) (hc : ∀ w, Calls P f #[] w fun e w' => e = .returned (.bool true) ∧ Below w.heap.size w w') : ExtOK P E f xTrue := by
  intro call _ args S v S' h B ρ w xs hx hS
  unfold xTrue at h
  split at h
  · obtain ⟨rfl, rfl⟩ := rok_ok h
    have hxs : xs = #[] := Array.toList_inj.1 (by simpa using VRs.nil_iff.1 hx)
    subst hxs
    refine .inr ⟨hf _ _, (hc w).mono fun e w' he => ?_⟩
    obtain ⟨rfl, hb⟩ := he
    obtain ⟨q1, q2⟩ := hS.below hb
    exact ⟨ρ, rfl, q1, q2⟩
  · cases h
theorem tab_put {P : Program} {E : Env} {T : Tr XE} {f : Nat} {g : CallT → List AV → St → Out} (hT : TabOK P E T) (hg : ExtOK P E f g) : TabOK P E (T.put f (some (.ext g))) := by
  intro n e h
  rw [get_put] at h
  split at h
  · rename_i hf
    subst hf
    cases h
    exact hg
  · exact hT n e h
theorem fnil' {E : Env} : FactsOK E [] := fun f hf => by cases hf
theorem fcons {E : Env} {f : Fact} {l : List Fact} (h : f.holds E) (hl : FactsOK E l) : FactsOK E (f :: l) := fun g hg => by
  rcases List.mem_cons.1 hg with rfl | hg
  · exact h
  · exact hl g hg
theorem ltY {E : Env} {a b : IE} (h : a.val E < b.val E) : (Fact.lt a b true).holds E := decide_eq_true h
theorem ltN {E : Env} {a b : IE} (h : ¬ a.val E < b.val E) : (Fact.lt a b false).holds E := decide_eq_false h
theorem eqY {E : Env} {a b : IE} (h : a.val E = b.val E) : (Fact.eq a b true).holds E := decide_eq_true h
theorem eqN {E : Env} {a b : IE} (h : ¬ a.val E = b.val E) : (Fact.eq a b false).holds E := decide_eq_false h
theorem fit64Y {E : Env} {e : IE} (h : -9223372036854775808 ≤ e.val E ∧ e.val E < 9223372036854775808) : (Fact.fit .i64 e).holds E := IntWalk.i64_in _ (by omega)
theorem fitU64Y {E : Env} {e : IE} (h : 0 ≤ e.val E ∧ e.val E < 18446744073709551616) : (Fact.fit .u64 e).holds E := IntWalk.u64_in _ (by omega)
end Go.Proofs.YtdimeaooekhkhaaGreat.AX
