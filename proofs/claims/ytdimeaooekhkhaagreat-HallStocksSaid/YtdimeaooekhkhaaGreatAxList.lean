/- Proved: the runner's plain functions on lists and numbers are the well-known ones. No function of the program is walked here. -/
import Derived.Test.YtdimeaooekhkhaaGreatAxRel
import Derived.IntWalk
set_option linter.unusedVariables false
set_option linter.unusedSimpArgs false
namespace Go.Proofs.YtdimeaooekhkhaaGreat.AX

theorem llen_eq {α : Type} (l : List α) : llen l = l.length := by
  induction l with
  | nil => rfl
  | cons a l ih => exact congrArg Nat.succ ih
theorem leq_eq : ∀ (a b : List Nat), leq a b = decide (a = b)
  | [], [] => rfl
  | [], _ :: _ => rfl
  | _ :: _, [] => rfl
  | x :: a, y :: b => by
    show cnd (Nat.beq x y) (leq a b) false = _
    rw [leq_eq a b]
    by_cases h : x = y
    · subst h
      rw [show Nat.beq x x = true from Nat.beq_eq ▸ (by simp)]
      by_cases h2 : a = b <;> simp [h2]
    · rw [show Nat.beq x y = false by cases hb : Nat.beq x y with | true => exact absurd (Nat.eq_of_beq_eq_true hb) h | false => rfl]
      simp [h]
theorem take?_spec {α : Type} : ∀ (n : Nat) (l r : List α), take? n l = some r → r = l.take n ∧ n ≤ l.length
  | 0, l, r, h => by cases h; exact ⟨by simp, Nat.zero_le _⟩
  | n + 1, [], r, h => by cases h
  | n + 1, a :: l, r, h => by
    have h : oif (take? n l) none (fun r => some (a :: r)) = some r := h
    cases ht : take? n l with
    | none => rw [ht] at h; cases h
    | some t =>
      rw [ht] at h
      obtain ⟨h1, h2⟩ := take?_spec n l t ht
      cases h
      exact ⟨by rw [h1]; rfl, by simp; exact h2⟩
theorem drop'_eq {α : Type} : ∀ (n : Nat) (l : List α), drop' n l = l.drop n
  | 0, l => rfl
  | n + 1, [] => rfl
  | n + 1, _ :: l => drop'_eq n l
theorem nth?_eq {α : Type} : ∀ (n : Nat) (l : List α), nth? n l = l[n]?
  | 0, [] => rfl
  | 0, _ :: _ => rfl
  | n + 1, [] => rfl
  | n + 1, _ :: l => nth?_eq n l
theorem sub?_spec {α : Type} {cs : List α} {off n : Nat} {l : List α} (h : sub? cs off n = some l) : l = (cs.drop off).take n ∧ l.length = n := by
  have := take?_spec _ _ _ h
  rw [drop'_eq] at this
  refine ⟨this.1, ?_⟩
  rw [this.1, List.length_take]
  omega
theorem sub?_get {α : Type} {cs : List α} {off n : Nat} {l : List α} (h : sub? cs off n = some l) {i : Nat} (hi : i < n) : cs[off + i]? = l[i]? := by
  obtain ⟨h1, h2⟩ := sub?_spec h
  rw [h1, List.getElem?_take, if_pos hi, List.getElem?_drop]
theorem over0_spec {α : Type} : ∀ (vs cs r : List α), over0 vs cs = some r → r = vs ++ cs.drop vs.length ∧ vs.length ≤ cs.length
  | [], cs, r, h => by cases h; exact ⟨by simp, Nat.zero_le _⟩
  | v :: vs, [], r, h => by cases h
  | v :: vs, c :: cs, r, h => by
    have h : oif (over0 vs cs) none (fun r => some (v :: r)) = some r := h
    cases ht : over0 vs cs with
    | none => rw [ht] at h; cases h
    | some t =>
      rw [ht] at h
      obtain ⟨h1, h2⟩ := over0_spec vs cs t ht
      cases h
      exact ⟨by rw [h1]; rfl, by simpa using h2⟩
theorem over?_spec {α : Type} (vs : List α) : ∀ (off : Nat) (cs r : List α), over? vs off cs = some r → r = cs.take off ++ vs ++ cs.drop (off + vs.length) ∧ off + vs.length ≤ cs.length
  | 0, cs, r, h => by
    obtain ⟨h1, h2⟩ := over0_spec vs cs r h
    exact ⟨by simp [h1], by omega⟩
  | off + 1, [], r, h => by cases h
  | off + 1, c :: cs, r, h => by
    have h : oif (over? vs off cs) none (fun r => some (c :: r)) = some r := h
    cases ht : over? vs off cs with
    | none => rw [ht] at h; cases h
    | some t =>
      rw [ht] at h
      obtain ⟨h1, h2⟩ := over?_spec vs off cs t ht
      cases h
      refine ⟨?_, by simp; omega⟩
      rw [h1, show off + 1 + vs.length = (off + vs.length) + 1 by omega]
      rfl
theorem reps_zero {α : Type} (z : List α) : reps z 0 = [] := rfl
theorem reps_succ {α : Type} (z : List α) (n : Nat) : reps z (n + 1) = z ++ reps z n := rfl
theorem reps_length {α : Type} (z : List α) : ∀ n, (reps z n).length = n * z.length
  | 0 => by simp [reps_zero]
  | n + 1 => by rw [reps_succ, List.length_append, reps_length z n, Nat.succ_mul]; omega
theorem allOne_iff : ∀ {l : List AV}, allOne l = true ↔ ∀ v ∈ l, v.one = true
  | [] => by simp [allOne]
  | a :: l => by
    show cnd a.one (allOne l) false = true ↔ _
    cases h : a.one with
    | true => rw [cnd_true, allOne_iff]; simp [h]
    | false => rw [cnd_false]; simp [h]
theorem ibeq_eq : ∀ (a b : Int), ibeq a b = (a == b)
  | .ofNat a, .ofNat b => by
    show Nat.beq a b = _
    rw [Bool.eq_iff_iff, Nat.beq_eq]; simp; omega
  | .negSucc a, .negSucc b => by
    show Nat.beq a b = _
    rw [Bool.eq_iff_iff, Nat.beq_eq]; simp
  | .ofNat a, .negSucc b => by
    show false = _
    rw [Bool.eq_iff_iff]; simp
  | .negSucc a, .ofNat b => by
    show false = _
    rw [Bool.eq_iff_iff]; simp
theorem ilt_eq : ∀ (a b : Int), ilt a b = decide (a < b)
  | .ofNat a, .ofNat b => by
    show Nat.blt a b = _
    rw [Bool.eq_iff_iff, Nat.blt_eq]; simp
  | .negSucc a, .negSucc b => by
    show Nat.blt b a = _
    rw [Bool.eq_iff_iff, Nat.blt_eq]; simp; omega
  | .ofNat a, .negSucc b => by
    show false = _
    rw [Bool.eq_iff_iff]; simp; omega
  | .negSucc a, .ofNat b => by
    show true = _
    rw [Bool.eq_iff_iff]; simp; omega
theorem cnd_eq {β : Type} (c : Bool) (a b : β) : cnd c a b = if c then a else b := by cases c <;> rfl
theorem wrapA_eq (k : IntKind) (n : Int) : wrapA k n = k.wrap n := by
  unfold wrapA
  split
  · rename_i m
    rw [cnd_eq]
    split
    · rename_i h
      have h : m < 9223372036854775808 := by simpa using h
      exact (IntWalk.i64_in (m : Int) (by omega)).symm
    · rfl
  · rename_i m
    rw [cnd_eq]
    split
    · rename_i h
      have h : m < 9223372036854775808 := by simpa using h
      exact (IntWalk.i64_in _ (by omega)).symm
    · rfl
  · rename_i m
    rw [cnd_eq]
    split
    · rename_i h
      have h : m < 18446744073709551616 := by simpa using h
      exact (IntWalk.u64_in (m : Int) (by omega)).symm
    · rfl
  · rename_i m
    rw [cnd_eq]
    split
    · rename_i h
      have h : m < 256 := by simpa using h
      exact (IntWalk.u8_in (m : Int) (by omega)).symm
    · rfl
  · rfl
theorem kindEq_iff {a b : IntKind} : kindEq a b = true ↔ a = b := by cases a <;> cases b <;> simp [kindEq]
theorem natOf_spec {v : AV} {n : Nat} (h : natOf v = some n) : ∃ k, v = .int k n := by
  unfold natOf at h
  split at h
  · cases h; exact ⟨_, rfl⟩
  · cases h
theorem bEq_eq (a b : Bool) : bEq a b = (a == b) := by cases a <;> cases b <;> rfl
end Go.Proofs.YtdimeaooekhkhaaGreat.AX
