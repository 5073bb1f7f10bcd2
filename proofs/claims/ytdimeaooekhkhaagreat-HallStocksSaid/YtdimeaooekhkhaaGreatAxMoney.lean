/- Proved: sums and products of money that are not run: what the runner says of them is what they are. No function of the program is walked here. -/
import Derived.Test.YtdimeaooekhkhaaGreatAxTab
set_option linter.unusedVariables false
set_option linter.unusedSimpArgs false
namespace Go.Proofs.YtdimeaooekhkhaaGreat.AX
open Go.RowKit

section
variable {P : Program} {E : Env} {B : Nat} {ρ : Ren} {S S' : St} {w w' : World} {f : Nat} {fs : List Fact} {v : AV}
theorem fit64 {n : Int} (h : IntKind.wrap .i64 n = n) : -9223372036854775808 ≤ n ∧ n < 9223372036854775808 := by
  rw [IntKind.wrap_i64] at h
  omega
theorem iaddL_val (E : Env) (a b : IE) : (iaddL a b).val E = a.val E + b.val E := by
  unfold iaddL
  split
  · rw [seqI_eq]; rfl
  · exact iadd_val E _ _
theorem in64_spec {n : Int} (h : in64 n = true) : -9223372036854775808 ≤ n ∧ n < 9223372036854775808 := by
  unfold in64 at h
  rw [ilt_eq, ilt_eq, cnd_eq] at h
  split at h
  · cases h
  · rename_i h1
    have h1 : ¬ n < -9223372036854775808 := by simpa using h1
    have h : n < 9223372036854775808 := by simpa using h
    omega
theorem ieF_spec (hF : FactsOK E fs) {a : AV} {x : Value} {e : IE} (hx : VR E ρ a x) (h : ieF fs a = .ok e) : x = .int .i64 (e.val E) ∧ -9223372036854775808 ≤ e.val E ∧ e.val E < 9223372036854775808 := by
  unfold ieF at h
  split at h
  · obtain ⟨h1, h2⟩ := cnd_eq_ok h
    cases h2
    exact ⟨hx, in64_spec h1⟩
  · obtain ⟨h1, h2⟩ := cnd_eq_ok h
    cases h2
    exact ⟨hx, fit64 (askFit_spec hF h1)⟩
  · cases h
theorem sumF_spec (hF : FactsOK E fs) : ∀ {l : List AV} {xs : List Value} {e0 e : IE}, VRs E ρ l xs → sumF fs l e0 = .ok e → ∃ zs : List Int, xs = zs.map (Value.int .i64) ∧ e.val E = e0.val E + zs.sum ∧ ∀ z ∈ zs, -9223372036854775808 ≤ z ∧ z < 9223372036854775808
  | [], xs, e0, e, hx, h => by cases h; rw [VRs.nil_iff.1 hx]; exact ⟨[], rfl, by simp, by simp⟩
  | a :: l, xs, e0, e, hx, h => by
    obtain ⟨x, m, rfl, h1, h2⟩ := VRs.cons_iff.1 hx
    have h : R.bind (ieF fs a) (fun x => sumF fs l (iaddL e0 x)) = .ok e := h
    obtain ⟨d, h3, h4⟩ := bind_eq_ok h
    obtain ⟨rfl, h5⟩ := ieF_spec hF h1 h3
    obtain ⟨zs, rfl, h6, h7⟩ := sumF_spec hF h2 h4
    refine ⟨d.val E :: zs, rfl, ?_, fun z hz => ?_⟩
    · rw [h6, iaddL_val, List.sum_cons]; omega
    · rcases List.mem_cons.1 hz with rfl | hz
      · exact h5
      · exact h7 z hz
theorem within_spec (hF : FactsOK E fs) {e : IE} (h : within fs S e = .ok (v, S')) : S' = S ∧ VR E ρ v (.int .i64 (e.val E)) ∧ -1152921504606846976 ≤ e.val E ∧ e.val E ≤ 1152921504606846976 := by
  unfold within at h
  split at h
  · rename_i n
    rw [ilt_eq, ilt_eq, cnd_eq] at h
    split at h
    · cases h
    · rename_i h1
      rw [cnd_eq] at h
      split at h
      · cases h
      · rename_i h2
        obtain ⟨rfl, rfl⟩ := okI_ok h
        have h1 : ¬ n < -1152921504606846976 := by simpa using h1
        have h2 : ¬ 1152921504606846976 < n := by simpa using h2
        refine ⟨rfl, rfl, ?_, ?_⟩ <;> simp only [IE.val] <;> omega
  · obtain ⟨r, hr, h1⟩ := oif_eq_ok h
    have k1 := askLt_spec hF hr
    cases r with
    | true => cases h1
    | false =>
      obtain ⟨q, hq, h2⟩ := oif_eq_ok h1
      have k2 := askLt_spec hF hq
      cases q with
      | true => cases h2
      | false =>
        obtain ⟨rfl, rfl⟩ := rok_ok h2
        have k1 := of_decide_eq_false k1
        have k2 := of_decide_eq_false k2
        simp only [IE.val] at k1 k2
        exact ⟨rfl, rfl, by omega, by omega⟩
/-- the cells of a slice -/
theorem cells_spec (hS : HR E B ρ S w) {x : AV} {y : Value} {n : Nat} {l : List AV} (hx : VR E ρ x y) (hs : isSl x = true) {size : Nat} (h : srcA S size x = some (n, l)) :
    ∃ A c xs, y = .slice A n c ∧ VRs E ρ l xs ∧ xs.length = n * size ∧ ∀ k u, xs[k]? = some u → ∃ g o, A = some ⟨g, o, none⟩ ∧ w.cell? ⟨g, o + k, none⟩ = some u := by
  unfold srcA at h
  split at h
  · cases h
    have hx : y = .slice none 0 0 := hx
    exact ⟨none, 0, [], hx, trivial, by simp, by simp⟩
  · cases h
    obtain ⟨a, c, rfl⟩ := hx
    exact ⟨a, c, [], rfl, trivial, by simp, by simp⟩
  · rename_i b off m cp
    obtain ⟨cs, h1, h2⟩ := oif_some' h
    obtain ⟨l', h3, h4⟩ := oif_some' h2
    cases h4
    obtain ⟨g, c, hg, rfl⟩ := hx
    obtain ⟨e, op, hblk⟩ := rowOf_spec h1
    obtain ⟨xs, hxs, hlen, hcell⟩ := hS.stretch hblk hg h3
    exact ⟨_, _, xs, rfl, hxs, hlen, fun k u hk => ⟨g, off, rfl, hcell k u hk⟩⟩
  · cases hs
  · cases h
/-- what is asked of the sum's code -/
def AddOK (P : Program) (f : Nat) : Prop := ∀ (w : World) (p : Value) (A : Option Addr) (c : Nat) (xs : List Int), xs.length < 1000000 → (∀ k x, xs[k]? = some x → ∃ g o, A = some ⟨g, o, none⟩ ∧ w.cell? ⟨g, o + k, none⟩ = some (.int .i64 x)) →
    (∀ x ∈ xs, -9223372036854775808 ≤ x ∧ x < 9223372036854775808) → -1152921504606846976 ≤ xs.sum → xs.sum ≤ 1152921504606846976 → Calls P f #[p, .slice A xs.length c] w fun e w' => e = .returned (.int .i64 xs.sum) ∧ w' = w
theorem ext_accAdd (hF : FactsOK E fs) (hf : ∀ xs w, (callFunc f xs).run P w = .ok (.enter f xs) w) (hA : AddOK P f) : ExtOK P E f (xAccAdd fs) := by
  intro call _ args S v S' h B ρ w xs hx hS
  unfold xAccAdd at h
  split at h
  · rename_i p x
    obtain ⟨h1, h2⟩ := cnd_eq_ok h
    obtain ⟨⟨n, l⟩, h3, h4⟩ := oif_eq_ok h2
    obtain ⟨h5, h6⟩ := cnd_eq_ok h4
    obtain ⟨e, h7, h8⟩ := bind_eq_ok h6
    obtain ⟨pv, m, hxs, hvp, hm⟩ := VRs.cons_iff.1 hx
    obtain ⟨y, m2, rfl, hvy, hm2⟩ := VRs.cons_iff.1 hm
    rw [VRs.nil_iff.1 hm2] at hxs
    obtain ⟨A, c, us, rfl, h9, h10, h11⟩ := cells_spec hS hvy h1 h3
    obtain ⟨zs, rfl, h12, h13⟩ := sumF_spec hF h9 h7
    have hxs : xs = #[pv, .slice A n c] := Array.toList_inj.1 (by simpa using hxs)
    subst hxs
    obtain ⟨rfl, h14, h15, h16⟩ := within_spec (ρ := ρ) hF h8
    have hsum : e.val E = zs.sum := by rw [h12]; simp [IE.val]
    rw [hsum] at h14 h15 h16
    have hn : n = zs.length := by simpa using h10.symm
    subst hn
    have h5 : zs.length < 1000000 := by simpa [fits] using h5
    right
    refine ⟨hf _ _, (hA w pv A c zs h5 (fun k x hk => h11 k _ (by rw [List.getElem?_map, hk]; rfl)) h13 h15 h16).mono fun e' w' he => ?_⟩
    obtain ⟨rfl, rfl⟩ := he
    exact ⟨ρ, h14, hS, Ext.refl B ρ _ _⟩
  · cases h
end
end Go.Proofs.YtdimeaooekhkhaaGreat.AX
