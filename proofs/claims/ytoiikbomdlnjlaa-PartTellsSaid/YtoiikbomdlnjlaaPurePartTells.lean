/- Proved: what package part and the reference tell of parts, over the printed functions. -/
import Derived.Test.YtoiikbomdlnjlaaPPartTellsx1
import Derived.Test.YtoiikbomdlnjlaaPPartTellsx2
import Derived.OpenShut
namespace Go.Proofs.Ytoiikbomdlnjlaa.Pure
open Go.RowKit Go.Proofs.Ytoiikbomdlnjlaa.PPartTells Go.Proofs.YtoiikbomdlnjlaaW.PrintWords Go.Proofs.YtoiikbomdlnjlaaW.PrintLast

/-- what Fits tells, as a plain test -/
def fitsP (u m left q : Int) : Prop := 1 ≤ q ∧ q ≤ left ∧ (q = left ∨ (0 < u ∧ Int.tmod q u = 0 ∧ m ≤ q ∧ m ≤ left - q))
instance (u m left q : Int) : Decidable (fitsP u m left q) := by unfold fitsP; exact inferInstance
theorem w64 {a : Int} (h1 : -9223372036854775808 ≤ a) (h2 : a ≤ 9223372036854775807) : wrap64 a = a := by unfold wrap64; omega
theorem fits_ok (k : Nat) (s : ByteArray) (c p : Bool) (u m r1 r2 r3 left q : Int) (hl : left ≤ 9223372036854775807) :
    part_Fits.f (k + 1) s c p u m r1 r2 r3 left q = some (decide (fitsP u m left q)) := by
  unfold part_Fits.f
  by_cases h1 : q < 1
  · rw [if_pos h1]; simp only [part_Fits.j0, if_true]
    rw [show decide (fitsP u m left q) = false from decide_eq_false (fun h => by have := h.1; omega)]
  · rw [if_neg h1]; simp only [part_Fits.j0]
    by_cases h2 : q > left
    · rw [if_pos (by simpa using h2)]
      rw [show decide (fitsP u m left q) = false from decide_eq_false (fun h => by have := h.2.1; omega)]
    · rw [if_neg (by simpa using h2)]
      by_cases h3 : q = left
      · rw [if_pos h3, show decide (fitsP u m left q) = true from decide_eq_true ⟨by omega, by omega, Or.inl h3⟩]
      · rw [if_neg h3]
        by_cases h4 : u > 0
        · rw [if_pos h4, if_neg (by omega)]
          by_cases h5 : Int.tmod q u = 0
          · rw [if_pos h5]
            by_cases h6 : q ≥ m
            · rw [if_pos h6, w64 (by omega) (by omega)]
              by_cases h7 : left - q ≥ m
              · rw [show decide (fitsP u m left q) = true from decide_eq_true ⟨by omega, by omega, Or.inr ⟨h4, h5, h6, h7⟩⟩, decide_eq_true h7]
              · rw [show decide (fitsP u m left q) = false from decide_eq_false (fun h => by rcases h.2.2 with h' | h' <;> omega), decide_eq_false h7]
            · rw [if_neg h6, show decide (fitsP u m left q) = false from decide_eq_false (fun h => by rcases h.2.2 with h' | h' <;> omega)]
          · rw [if_neg h5, show decide (fitsP u m left q) = false from decide_eq_false (fun h => by rcases h.2.2 with h' | h'; exact h3 h'; exact h5 h'.2.1)]
        · rw [if_neg h4, show decide (fitsP u m left q) = false from decide_eq_false (fun h => by rcases h.2.2 with h' | h' <;> omega)]
/-- what Most tells -/
def mostI (u m left free : Int) : Int :=
  if left ≤ free then (if left < 0 then 0 else left) else
  if u < 1 ∨ free < 1 then 0 else
  let q := if 0 < m then (if left - m < free then left - m else free) else free
  if q < 1 then 0 else if fitsP u m left (q - Int.tmod q u) then q - Int.tmod q u else 0
theorem tmod_bd {q u : Int} (hq : 0 ≤ q) (hu : 0 < u) : 0 ≤ Int.tmod q u ∧ Int.tmod q u ≤ q ∧ Int.tmod q u < u := by
  rw [Int.tmod_eq_emod_of_nonneg hq]
  refine ⟨Int.emod_nonneg _ (by omega), ?_, Int.emod_lt_of_pos _ hu⟩
  have e1 := Int.mul_ediv_add_emod q u
  have e2 := Int.mul_nonneg (show (0 : Int) ≤ u by omega) (Int.ediv_nonneg hq (show (0 : Int) ≤ u by omega))
  omega
theorem most_ok (k : Nat) (s : ByteArray) (c p : Bool) (u m r1 r2 r3 left free : Int) (hl : left ≤ 9223372036854775807) (hm : m ≤ 9223372036854775807) :
    part_Most.f (k + 3) s c p u m r1 r2 r3 left free = some (mostI u m left free) := by
  unfold part_Most.f mostI
  by_cases h1 : free ≥ left
  · rw [if_pos h1]; unfold mx
    by_cases h0 : left < 0
    · rw [if_pos h0, if_pos h1]
    · rw [if_neg h0, if_pos h1]
  · have h1' : ¬ left ≤ free := by omega
    rw [if_neg h1, if_neg h1']
    have key : ∀ q : Int, q ≤ left → part_Most.j1 (k + 1 + 1) left q s c p u m r1 r2 r3 = if u < 1 then part_Most.j1 (k + 1 + 1) left q s c p u m r1 r2 r3 else some (if q < 1 then 0 else if fitsP u m left (q - Int.tmod q u) then q - Int.tmod q u else 0) := by
      intro q hq
      by_cases hu : u < 1
      · rw [if_pos hu]
      · rw [if_neg hu]; simp only [part_Most.j1]
        by_cases h2 : q < 1
        · rw [if_pos h2, if_pos h2]
        · rw [if_neg h2, if_neg h2, if_neg (by omega)]
          have hb := tmod_bd (q := q) (u := u) (by omega) (by omega)
          rw [w64 (by omega) (by omega), fits_ok k _ _ _ _ _ _ _ _ _ _ hl]
          simp only [Option.bind_some]
          by_cases h3 : fitsP u m left (q - Int.tmod q u)
          · rw [if_pos (by simpa using h3), if_pos h3]
          · rw [if_neg (by simpa using h3), if_neg h3]
    by_cases h2 : u < 1
    · have h2' : u < 1 ∨ free < 1 := Or.inl h2
      rw [if_pos h2, if_pos h2']; simp only [part_Most.j0, if_true]
    · rw [if_neg h2]; simp only [part_Most.j0]
      by_cases h3 : free < 1
      · have h2' : u < 1 ∨ free < 1 := Or.inr h3
        rw [if_pos (show decide (free < 1) = true by simpa using h3), if_pos h2']
      · have h2' : ¬ (u < 1 ∨ free < 1) := by omega
        rw [if_neg (show ¬ decide (free < 1) = true by simpa using h3), if_neg h2']
        by_cases h4 : m > 0
        · have h4' : 0 < m := h4
          rw [if_pos h4, if_pos h4', w64 (by omega) (by omega)]
          unfold mn
          rw [key _ (by split <;> omega), if_neg h2]
        · have h4' : ¬ 0 < m := h4
          rw [if_neg h4, if_neg h4', key _ (by omega), if_neg h2]

theorem alive_ok (k : Nat) : complinelaw23_alive.f (k + 3) = some true := by
  unfold complinelaw23_alive.f complinelaw23_asset.f
  simp only [Option.bind_some]
  rw [most_ok k _ _ _ _ _ _ _ _ _ _ (by omega) (by omega), most_ok k _ _ _ _ _ _ _ _ _ _ (by omega) (by omega), most_ok k _ _ _ _ _ _ _ _ _ _ (by omega) (by omega)]
  rw [fits_ok (k + 2) _ _ _ _ _ _ _ _ _ _ (by omega), fits_ok (k + 2) _ _ _ _ _ _ _ _ _ _ (by omega)]
  simp only [Option.bind_some]
  rw [if_pos (by decide), if_pos (by decide), if_pos (by decide), if_neg (by decide), if_pos (by decide)]
  unfold part_May.f
  rfl

theorem rfits_ok (s : ByteArray) (c p : Bool) (u m r1 r2 r3 left q : Int) (hl : left ≤ 9223372036854775807) :
    complineref22_Fits.f s c p u m r1 r2 r3 left q = some (decide (fitsP u m left q)) := by
  rw [← fits_ok 0 s c p u m r1 r2 r3 left q hl]
  unfold complineref22_Fits.f part_Fits.f
  by_cases h1 : q < 1
  · rw [if_pos h1, if_pos h1]; simp only [part_Fits.j0, if_true]
  · rw [if_neg h1, if_neg h1]; simp only [part_Fits.j0]
    by_cases h2 : q > left
    · rw [if_pos h2, if_pos (show decide (q > left) = true by simpa using h2)]
    · rw [if_neg h2, if_neg (show ¬ decide (q > left) = true by simpa using h2)]
      by_cases h3 : q = left
      · rw [if_pos h3, if_pos h3]
      · rw [if_neg h3, if_neg h3]
        by_cases h4 : u > 0
        · rw [if_pos (show u ≥ 1 by omega), if_pos h4]
        · rw [if_neg (show ¬ u ≥ 1 by omega), if_neg h4]
theorem rmost_ok (k : Nat) (s : ByteArray) (c p : Bool) (u m r1 r2 r3 left free : Int) (hl : left ≤ 9223372036854775807) (hm : m ≤ 9223372036854775807) :
    complineref22_Most.f (k + 3) s c p u m r1 r2 r3 left free = some (mostI u m left free) := by
  unfold complineref22_Most.f mostI
  by_cases h0 : left < 1
  · rw [if_pos h0]; simp only [complineref22_Most.j0, if_true]
    by_cases h1 : left ≤ free
    · rw [if_pos h1]
      by_cases h2 : left < 0
      · rw [if_pos h2]
      · rw [if_neg h2]; congr 1; omega
    · have h3 : u < 1 ∨ free < 1 := by omega
      rw [if_neg h1, if_pos h3]
  · rw [if_neg h0]; simp only [complineref22_Most.j0]
    by_cases h1 : free < 1
    · rw [if_pos (by simpa using h1), if_neg (by omega), if_pos (by omega)]
    · rw [if_neg (show ¬ decide (free < 1) = true by simpa using h1)]
      by_cases h2 : free ≥ left
      · have h2' : left ≤ free := h2
        have h0' : ¬ left < 0 := by omega
        rw [if_pos h2, if_pos h2', if_neg h0']
      · have h2' : ¬ left ≤ free := h2
        rw [if_neg h2, if_neg h2']
        by_cases h3 : u < 1
        · have h3' : u < 1 ∨ free < 1 := Or.inl h3
          rw [if_pos h3, if_pos h3']
        · have h3' : ¬ (u < 1 ∨ free < 1) := by omega
          rw [if_neg h3, if_neg h3']
          have key : ∀ q : Int, q ≤ left → complineref22_Most.j2 (k + 1) left q s c p u m r1 r2 r3 = some (if q < 1 then 0 else if fitsP u m left (q - Int.tmod q u) then q - Int.tmod q u else 0) := by
            intro q hq
            simp only [complineref22_Most.j2]
            by_cases h2 : q < 1
            · rw [if_pos h2, if_pos h2]
            · have hb := tmod_bd (q := q) (u := u) (by omega) (by omega)
              have hu0 : ¬ u = 0 := by omega
              rw [if_neg h2, if_neg h2, if_neg hu0, w64 (by omega) (by omega), rfits_ok _ _ _ _ _ _ _ _ _ _ hl]
              simp only [Option.bind_some]
              by_cases h3 : fitsP u m left (q - Int.tmod q u)
              · rw [if_pos (show decide (fitsP u m left (q - Int.tmod q u)) = true by simpa using h3), if_pos h3]
              · rw [if_neg (show ¬ decide (fitsP u m left (q - Int.tmod q u)) = true by simpa using h3), if_neg h3]
          by_cases h4 : m > 0
          · have h4' : 0 < m := h4
            rw [if_pos h4, if_pos h4', w64 (by omega) (by omega)]
            simp only [complineref22_Most.j1]
            by_cases h5 : left - free < m
            · have h5' : left - m < free := by omega
              rw [if_pos (show decide (left - free < m) = true by simpa using h5), if_pos h5', w64 (by omega) (by omega), key _ (by omega)]
            · have h5' : ¬ left - m < free := by omega
              rw [if_neg (show ¬ decide (left - free < m) = true by simpa using h5), if_neg h5', key _ (by omega)]
          · have h4' : ¬ 0 < m := h4
            rw [if_neg h4, if_neg h4']
            simp only [complineref22_Most.j1, Bool.false_eq_true, if_false]
            rw [key _ (by omega)]

end Go.Proofs.Ytoiikbomdlnjlaa.Pure
