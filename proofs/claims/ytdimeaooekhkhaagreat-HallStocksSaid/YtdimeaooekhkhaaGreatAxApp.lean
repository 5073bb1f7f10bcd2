/- Proved: an append of what an iterator gives that gives nothing: what the runner says of it. No function of the program is walked here. -/
import Derived.Test.YtdimeaooekhkhaaGreatAxSort
set_option linter.unusedVariables false
set_option linter.unusedSimpArgs false
namespace Go.Proofs.YtdimeaooekhkhaaGreat.AX
open Go.RowKit
/-- what an append does whose iterator gives nothing -/
structure Appends0 (P : Program) (f : Nat) (gn ge : List Nat) : Prop where
  nil : ∀ g ∈ gn, ∀ (w : World) (Bm : Nat), Bm < w.heap.size → w.cell? ⟨Bm, 0, none⟩ = some (.map none) → Calls P f #[.slice none 0 0, .func (.func g) #[] #[.pointer (some ⟨Bm, 0, none⟩)]] w fun e w' => e = .returned (.slice none 0 0) ∧ Below w.heap.size w w'
  empty : ∀ g ∈ ge, ∀ (w : World) (Bm b clock : Nat), Bm < w.heap.size → w.cell? ⟨Bm, 0, none⟩ = some (.map (some b)) → b < w.heap.size → w.heap[b]? = some (.map #[] clock) →
    Calls P f #[.slice none 0 0, .func (.func g) #[] #[.pointer (some ⟨Bm, 0, none⟩)]] w fun e w' => e = .returned (.slice none 0 0) ∧ Below w.heap.size w w'
theorem memN_mem {g : Nat} : ∀ {gs : List Nat}, memN g gs = true → g ∈ gs
  | [], h => nomatch h
  | x :: l, h => by
    have h : cnd (Nat.beq x g) true (memN g l) = true := h
    cases hb : Nat.beq x g with
    | true => rw [Nat.eq_of_beq_eq_true hb]; simp
    | false => rw [hb] at h; exact List.mem_cons_of_mem _ (memN_mem h)
theorem ext_append0 {P : Program} {E : Env} {f : Nat} {gn ge : List Nat} (hf : ∀ xs w, (callFunc f xs).run P w = .ok (.enter f xs) w) (hA : Appends0 P f gn ge) : ExtOK P E f (xAppend0 gn ge) := by
  intro call _ args S v S' h B ρ w xs hx hS
  unfold xAppend0 at h
  split at h
  · rename_i g b
    obtain ⟨cs, h3, h4⟩ := oif_eq_ok h
    obtain ⟨x0, m0, hxs, hv0, hm0⟩ := VRs.cons_iff.1 hx
    have hv0 : x0 = .slice none 0 0 := hv0
    subst hv0
    obtain ⟨x, m, rfl, hv, hm⟩ := VRs.cons_iff.1 hm0
    rw [VRs.nil_iff.1 hm] at hxs
    obtain ⟨as, bs, rfl, ha, hb⟩ := hv
    have ha : as = #[] := Array.toList_inj.1 (by simpa using VRs.nil_iff.1 ha)
    obtain ⟨p, m2, hbs, ⟨gb, c, hgb, rfl⟩, hm2⟩ := VRs.cons_iff.1 hb
    rw [VRs.nil_iff.1 hm2] at hbs
    have hbs : bs = #[.pointer (some ⟨gb, 0, none⟩)] := Array.toList_inj.1 (by simpa using hbs)
    subst ha; subst hbs
    have hxs : xs = #[.slice none 0 0, .func (.func g) #[] #[.pointer (some ⟨gb, 0, none⟩)]] := Array.toList_inj.1 (by simpa using hxs)
    subst hxs
    obtain ⟨e, op, hblk⟩ := rowOf_spec h3
    have hplace := hS.place hblk hgb
    refine .inr ⟨hf _ _, ?_⟩
    unfold append0 at h4
    split at h4
    · obtain ⟨h5, h6⟩ := cnd_eq_ok h4
      obtain ⟨rfl, rfl⟩ := rok_ok h6
      obtain ⟨y, hy, hvy⟩ := hS.cell (i := 0) (v := .nilm) hblk hgb rfl
      have hvy : y = .map none := hvy
      subst hvy
      refine (hA.nil g (memN_mem h5) w gb hplace hy).mono fun e w' he => ?_
      obtain ⟨rfl, hbl⟩ := he
      obtain ⟨q1, q2⟩ := hS.below hbl
      exact ⟨ρ, rfl, q1, q2⟩
    · rename_i r
      obtain ⟨h5, h6⟩ := cnd_eq_ok h4
      obtain ⟨y, hy, hvy⟩ := hS.cell (i := 0) (v := .mapv r) hblk hgb rfl
      obtain ⟨gm, cm, hgm, rfl⟩ := hvy
      obtain ⟨p, r1, r2⟩ := oif_eq_ok h6
      unfold empt0 at r2
      split at r2
      · rename_i he
        obtain ⟨rfl, rfl⟩ := rok_ok r2
        have hmb := mapOf_some r1
        obtain ⟨_, o, ho, ms, rfl, hms⟩ := hS.blk r _ gm cm hmb hgm
        rw [he] at hms
        have hms0 : ms = #[] := by
          have : ms.toList = [] := by
            cases hl : ms.toList with
            | nil => rfl
            | cons _ _ => rw [hl] at hms; exact hms.elim
          exact Array.toList_inj.1 (by simpa using this)
        subst hms0
        refine (hA.empty g (memN_mem h5) w gb gm p.2 hplace hy (hS.place hmb hgm) ho).mono fun e w' he => ?_
        obtain ⟨rfl, hbl⟩ := he
        obtain ⟨q1, q2⟩ := hS.below hbl
        exact ⟨ρ, rfl, q1, q2⟩
      · cases r2
    · cases h4
  · cases h
end Go.Proofs.YtdimeaooekhkhaaGreat.AX
