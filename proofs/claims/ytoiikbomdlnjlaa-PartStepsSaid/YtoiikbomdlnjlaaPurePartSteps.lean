/- Proved: with more free no less may go by package part's Most; what is left whole always may, of nothing nothing. Condition: none beyond the row's own (five ints). -/
import Derived.Test.YtoiikbomdlnjlaaPPartStepsx2
namespace Go.Proofs.Ytoiikbomdlnjlaa.Pure
open Go.RowKit Go.Proofs.Ytoiikbomdlnjlaa.PPartSteps Go.Proofs.YtoiikbomdlnjlaaW.PrintWords Go.Proofs.YtoiikbomdlnjlaaW.PrintLast

/-- what Fits tells, as a plain test -/
def fitsP (u m left q : Int) : Prop := 1 ≤ q ∧ q ≤ left ∧ (q = left ∨ (0 < u ∧ Int.tmod q u = 0 ∧ m ≤ q ∧ m ≤ left - q))
instance (u m left q : Int) : Decidable (fitsP u m left q) := by unfold fitsP; exact inferInstance
theorem w64 {a : Int} (h1 : -9223372036854775808 ≤ a) (h2 : a ≤ 9223372036854775807) : wrap64 a = a := by unfold wrap64; omega
theorem fits_ok (k : Nat) (s : ByteArray) (c p : Bool) (u m r1 r2 r3 left q : Int) (hl : left ≤ 9223372036854775807) :
    part_Fits.f (k + 1) s c p u m r1 r2 r3 left q = some (decide (fitsP u m left q)) := by
  unfold part_Fits.f
  by_cases h1 : q < 1
  · rw [if_pos h1]; simp only [part_Fits.j0, if_true]
    rw [show decide (fitsP u m left q) = false from decide_eq_false (fun h => by have := h.1; omega)]
  · rw [if_neg h1]; simp only [part_Fits.j0]
    by_cases h2 : q > left
    · rw [if_pos (by simpa using h2)]
      rw [show decide (fitsP u m left q) = false from decide_eq_false (fun h => by have := h.2.1; omega)]
    · rw [if_neg (by simpa using h2)]
      by_cases h3 : q = left
      · rw [if_pos h3, show decide (fitsP u m left q) = true from decide_eq_true ⟨by omega, by omega, Or.inl h3⟩]
      · rw [if_neg h3]
        by_cases h4 : u > 0
        · rw [if_pos h4, if_neg (by omega)]
          by_cases h5 : Int.tmod q u = 0
          · rw [if_pos h5]
            by_cases h6 : q ≥ m
            · rw [if_pos h6, w64 (by omega) (by omega)]
              by_cases h7 : left - q ≥ m
              · rw [show decide (fitsP u m left q) = true from decide_eq_true ⟨by omega, by omega, Or.inr ⟨h4, h5, h6, h7⟩⟩, decide_eq_true h7]
              · rw [show decide (fitsP u m left q) = false from decide_eq_false (fun h => by rcases h.2.2 with h' | h' <;> omega), decide_eq_false h7]
            · rw [if_neg h6, show decide (fitsP u m left q) = false from decide_eq_false (fun h => by rcases h.2.2 with h' | h' <;> omega)]
          · rw [if_neg h5, show decide (fitsP u m left q) = false from decide_eq_false (fun h => by rcases h.2.2 with h' | h'; exact h3 h'; exact h5 h'.2.1)]
        · rw [if_neg h4, show decide (fitsP u m left q) = false from decide_eq_false (fun h => by rcases h.2.2 with h' | h' <;> omega)]
/-- what Most tells -/
def mostI (u m left free : Int) : Int :=
  if left ≤ free then (if left < 0 then 0 else left) else
  if u < 1 ∨ free < 1 then 0 else
  let q := if 0 < m then (if left - m < free then left - m else free) else free
  if q < 1 then 0 else if fitsP u m left (q - Int.tmod q u) then q - Int.tmod q u else 0
theorem tmod_bd {q u : Int} (hq : 0 ≤ q) (hu : 0 < u) : 0 ≤ Int.tmod q u ∧ Int.tmod q u ≤ q ∧ Int.tmod q u < u := by
  rw [Int.tmod_eq_emod_of_nonneg hq]
  refine ⟨Int.emod_nonneg _ (by omega), ?_, Int.emod_lt_of_pos _ hu⟩
  have e1 := Int.mul_ediv_add_emod q u
  have e2 := Int.mul_nonneg (show (0 : Int) ≤ u by omega) (Int.ediv_nonneg hq (show (0 : Int) ≤ u by omega))
  omega
theorem most_ok (k : Nat) (s : ByteArray) (c p : Bool) (u m r1 r2 r3 left free : Int) (hl : left ≤ 9223372036854775807) (hm : m ≤ 9223372036854775807) :
    part_Most.f (k + 3) s c p u m r1 r2 r3 left free = some (mostI u m left free) := by
  unfold part_Most.f mostI
  by_cases h1 : free ≥ left
  · rw [if_pos h1]; unfold mx
    by_cases h0 : left < 0
    · rw [if_pos h0, if_pos h1]
    · rw [if_neg h0, if_pos h1]
  · have h1' : ¬ left ≤ free := by omega
    rw [if_neg h1, if_neg h1']
    have key : ∀ q : Int, q ≤ left → part_Most.j1 (k + 1 + 1) left q s c p u m r1 r2 r3 = if u < 1 then part_Most.j1 (k + 1 + 1) left q s c p u m r1 r2 r3 else some (if q < 1 then 0 else if fitsP u m left (q - Int.tmod q u) then q - Int.tmod q u else 0) := by
      intro q hq
      by_cases hu : u < 1
      · rw [if_pos hu]
      · rw [if_neg hu]; simp only [part_Most.j1]
        by_cases h2 : q < 1
        · rw [if_pos h2, if_pos h2]
        · rw [if_neg h2, if_neg h2, if_neg (by omega)]
          have hb := tmod_bd (q := q) (u := u) (by omega) (by omega)
          rw [w64 (by omega) (by omega), fits_ok k _ _ _ _ _ _ _ _ _ _ hl]
          simp only [Option.bind_some]
          by_cases h3 : fitsP u m left (q - Int.tmod q u)
          · rw [if_pos (by simpa using h3), if_pos h3]
          · rw [if_neg (by simpa using h3), if_neg h3]
    by_cases h2 : u < 1
    · have h2' : u < 1 ∨ free < 1 := Or.inl h2
      rw [if_pos h2, if_pos h2']; simp only [part_Most.j0, if_true]
    · rw [if_neg h2]; simp only [part_Most.j0]
      by_cases h3 : free < 1
      · have h2' : u < 1 ∨ free < 1 := Or.inr h3
        rw [if_pos (show decide (free < 1) = true by simpa using h3), if_pos h2']
      · have h2' : ¬ (u < 1 ∨ free < 1) := by omega
        rw [if_neg (show ¬ decide (free < 1) = true by simpa using h3), if_neg h2']
        by_cases h4 : m > 0
        · have h4' : 0 < m := h4
          rw [if_pos h4, if_pos h4', w64 (by omega) (by omega)]
          unfold mn
          rw [key _ (by split <;> omega), if_neg h2]
        · have h4' : ¬ 0 < m := h4
          rw [if_neg h4, if_neg h4', key _ (by omega), if_neg h2]

theorem alive_ok (k : Nat) : complinelaw23_alive.f (k + 3) = some true := by
  unfold complinelaw23_alive.f complinelaw23_asset.f
  simp only [Option.bind_some]
  rw [most_ok k _ _ _ _ _ _ _ _ _ _ (by omega) (by omega), most_ok k _ _ _ _ _ _ _ _ _ _ (by omega) (by omega), most_ok k _ _ _ _ _ _ _ _ _ _ (by omega) (by omega)]
  rw [fits_ok (k + 2) _ _ _ _ _ _ _ _ _ _ (by omega), fits_ok (k + 2) _ _ _ _ _ _ _ _ _ _ (by omega)]
  simp only [Option.bind_some]
  rw [if_pos (by decide), if_pos (by decide), if_pos (by decide), if_neg (by decide), if_pos (by decide)]
  unfold part_May.f
  rfl

/-- the most fits, or is 0 -/
theorem most_fits (u m left free : Int) (hl : 1 ≤ left) (hf : 0 ≤ free) (hm : 1 ≤ m) (hu : 1 ≤ u) :
    0 ≤ mostI u m left free ∧ mostI u m left free ≤ free ∧ (mostI u m left free = 0 ∨ fitsP u m left (mostI u m left free)) := by
  unfold mostI
  by_cases c1 : left ≤ free
  · have c2 : ¬ left < 0 := by omega
    rw [if_pos c1, if_neg c2]; exact ⟨by omega, by omega, Or.inr ⟨by omega, by omega, Or.inl rfl⟩⟩
  · rw [if_neg c1]
    by_cases c2 : u < 1 ∨ free < 1
    · rw [if_pos c2]; exact ⟨by omega, by omega, Or.inl rfl⟩
    · have c3 : 0 < m := by omega
      rw [if_neg c2, if_pos c3]
      have hqf : (if left - m < free then left - m else free) ≤ free := by split <;> omega
      generalize (if left - m < free then left - m else free) = q at *
      simp only
      by_cases c4 : q < 1
      · rw [if_pos c4]; exact ⟨by omega, by omega, Or.inl rfl⟩
      · have hb := tmod_bd (q := q) (u := u) (by omega) (by omega)
        rw [if_neg c4]
        by_cases c5 : fitsP u m left (q - Int.tmod q u)
        · rw [if_pos c5]; exact ⟨by omega, by omega, Or.inr c5⟩
        · rw [if_neg c5]; exact ⟨by omega, by omega, Or.inl rfl⟩
theorem mult_le {k q u : Int} (hu : 1 ≤ u) (hk : 0 ≤ k) (hq : 0 ≤ q) (hkq : k ≤ q) (hd : Int.tmod k u = 0) : k ≤ q - Int.tmod q u := by
  rw [Int.tmod_eq_emod_of_nonneg hk] at hd
  rw [Int.tmod_eq_emod_of_nonneg hq]
  have e1 := Int.mul_ediv_add_emod k u
  have e2 := Int.mul_ediv_add_emod q u
  have hle : k / u ≤ q / u := Int.ediv_le_ediv (by omega) hkq
  have := Int.mul_le_mul_of_nonneg_left hle (show (0 : Int) ≤ u by omega)
  omega
/-- none above the most fits -/
theorem most_max (u m left free k : Int) (hl : 1 ≤ left) (hf : 0 ≤ free) (hm : 1 ≤ m) (hu : 1 ≤ u) (hk : k ≤ free) (hfit : fitsP u m left k) : k ≤ mostI u m left free := by
  obtain ⟨h1, h2, h3⟩ := hfit
  unfold mostI
  by_cases c1 : left ≤ free
  · have c2 : ¬ left < 0 := by omega
    rw [if_pos c1, if_neg c2]; exact h2
  · have c2 : ¬ (u < 1 ∨ free < 1) := by omega
    have c3 : 0 < m := by omega
    rw [if_neg c1, if_neg c2, if_pos c3]
    rcases h3 with h3 | ⟨h4, h5, h6, h7⟩
    · omega
    · have hqk : k ≤ (if left - m < free then left - m else free) := by split <;> omega
      have hqm : (if left - m < free then left - m else free) ≤ left - m := by split <;> omega
      generalize (if left - m < free then left - m else free) = q at *
      simp only
      have c4 : ¬ q < 1 := by omega
      rw [if_neg c4]
      have hb := tmod_bd (q := q) (u := u) (by omega) (by omega)
      have hle := mult_le hu (by omega) (by omega) hqk h5
      have hz : Int.tmod (q - Int.tmod q u) u = 0 := by
        rw [Int.tmod_eq_emod_of_nonneg (by omega), Int.tmod_eq_emod_of_nonneg (by omega)]
        exact Int.emod_eq_zero_of_dvd (Int.dvd_self_sub_emod)
      rw [if_pos ⟨by omega, by omega, Or.inr ⟨by omega, hz, by omega, by omega⟩⟩]
      exact hle

theorem PartSteps : complinelaw23_PartSteps.Pure := by
  intro u m left a b w0 w1 w2 w3 w4
  refine ⟨10, ?_⟩
  have out : complinelaw23_PartSteps.j0 (9 + 1) u m left a b true = some true := by
    simp only [complinelaw23_PartSteps.j0, if_true]; rw [alive_ok 6]; rfl
  unfold complinelaw23_PartSteps.f
  by_cases a1 : u < 1
  · rw [if_pos a1]; exact out
  · rw [if_neg a1]
    by_cases a2 : u > 1099511627776
    · rw [if_pos a2]; exact out
    · rw [if_neg a2]
      by_cases a3 : m < 1
      · rw [if_pos a3]; exact out
      · rw [if_neg a3]
        by_cases a4 : m > 1099511627776
        · rw [if_pos a4]; exact out
        · rw [if_neg a4]
          by_cases a5 : left < 1
          · rw [if_pos a5]; exact out
          · rw [if_neg a5]
            by_cases a6 : left > 1125899906842624
            · rw [if_pos a6]; exact out
            · rw [if_neg a6]
              by_cases a7 : a < 0
              · rw [if_pos a7]; exact out
              · rw [if_neg a7]
                by_cases a8 : b < a
                · rw [if_pos a8]; exact out
                · rw [if_neg a8]
                  by_cases a9 : b > 1125899906842624
                  · rw [decide_eq_true a9]; exact out
                  · rw [decide_eq_false a9]
                    have ha := most_fits u m left a (by omega) (by omega) (by omega) (by omega)
                    have hb := most_fits u m left b (by omega) (by omega) (by omega) (by omega)
                    have hle : mostI u m left a ≤ mostI u m left b := by
                      rcases ha.2.2 with h | h
                      · omega
                      · exact most_max u m left b _ (by omega) (by omega) (by omega) (by omega) (by omega) h
                    have hll : mostI u m left left = left := by unfold mostI; rw [if_pos (by omega), if_neg (by omega)]
                    have hl0 : mostI u m left 0 = 0 := by unfold mostI; rw [if_neg (by omega), if_pos (by omega)]
                    have f1 : fitsP u m left left := ⟨by omega, by omega, Or.inl rfl⟩
                    have f2 : ¬ fitsP u m left 0 := fun h => by have := h.1; omega
                    have f3 : ¬ fitsP u m left (left + 1) := fun h => by have := h.2.1; omega
                    show complinelaw23_PartSteps.j0 (9 + 1) u m left a b false = some true
                    simp only [complinelaw23_PartSteps.j0, Bool.false_eq_true, if_false]
                    rw [most_ok 6 _ _ _ _ _ _ _ _ _ _ (by omega) (by omega)]
                    simp only [Option.bind_some]
                    rw [most_ok 6 _ _ _ _ _ _ _ _ _ _ (by omega) (by omega)]
                    simp only [Option.bind_some]
                    rw [alive_ok 6]; simp only [Option.bind_some, if_true]
                    rw [if_pos hle, most_ok 6 _ _ _ _ _ _ _ _ _ _ (by omega) (by omega)]
                    simp only [Option.bind_some]
                    rw [if_pos hll, most_ok 6 _ _ _ _ _ _ _ _ _ _ (by omega) (by omega)]
                    simp only [Option.bind_some]
                    rw [if_pos hl0, fits_ok 8 _ _ _ _ _ _ _ _ _ _ (by omega)]
                    simp only [Option.bind_some]
                    rw [if_pos (by simpa using f1), fits_ok 8 _ _ _ _ _ _ _ _ _ _ (by omega)]
                    simp only [Option.bind_some]
                    rw [if_neg (by simpa using f2), w64 (by omega) (by omega), fits_ok 8 _ _ _ _ _ _ _ _ _ _ (by omega)]
                    simp only [Option.bind_some]
                    rw [decide_eq_false f3]; rfl

end Go.Proofs.Ytoiikbomdlnjlaa.Pure
