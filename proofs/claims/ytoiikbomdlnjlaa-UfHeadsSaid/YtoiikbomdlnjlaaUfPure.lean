/- Proved: plain laws of the classes that package uf keeps: heads, classes, joins, growth. No program is walked here. -/
import Derived.Test.YtoiikbomdlnjlaaUf4
set_option linter.unusedVariables false
set_option linter.unusedSimpArgs false
namespace Go.Proofs.Ytoiikbomdlnjlaa.Uf

/-- the numbers from a on, d of them -/
def rangeI : Int → Nat → List Int
  | _, 0 => []
  | a, d + 1 => a :: rangeI (a + 1) d
theorem mem_rangeI {a : Int} {d : Nat} {x : Int} : x ∈ rangeI a d ↔ a ≤ x ∧ x < a + d := by
  induction d generalizing a with
  | zero => simp [rangeI]
  | succ d ih => simp only [rangeI, List.mem_cons, ih]; omega
theorem rangeI_len (a : Int) (d : Nat) : (rangeI a d).length = d := by
  induction d generalizing a with
  | zero => rfl
  | succ d ih => simp [rangeI, ih]
theorem rangeI_append (a : Int) (d e : Nat) : rangeI a (d + e) = rangeI a d ++ rangeI (a + d) e := by
  induction d generalizing a with
  | zero => simp [rangeI]
  | succ d ih =>
    rw [show d + 1 + e = (d + e) + 1 by omega]
    simp only [rangeI, List.cons_append]
    rw [ih, show a + 1 + (d : Int) = a + ((d + 1 : Nat) : Int) by omega]
theorem rangeI_sorted (a : Int) (d : Nat) : (rangeI a d).Pairwise (· < ·) := by
  induction d generalizing a with
  | zero => exact List.Pairwise.nil
  | succ d ih => exact List.Pairwise.cons (fun x hx => by have := mem_rangeI.1 hx; omega) (ih _)
theorem clsF_eq (xs : List Int) (h : Int) (d : Nat) (j : Int) : clsF xs h d j = (rangeI j d).filter (fun x => decide (hd xs x = h)) := by
  induction d generalizing j with
  | zero => rfl
  | succ d ih =>
    simp only [clsF, rangeI, List.filter_cons, ih]
    by_cases e : hd xs j = h <;> simp [e]
theorem clssF_eq (xs : List Int) (d : Nat) (j : Int) : clssF xs d j = ((rangeI j d).filter (fun x => decide (hd xs x = x))).map (cls xs) := by
  induction d generalizing j with
  | zero => rfl
  | succ d ih =>
    simp only [clssF, rangeI, List.filter_cons, ih]
    by_cases e : hd xs j = j <;> simp [e]
theorem cls_eq {xs : List Int} (hw : Wf xs) {i : Int} (h1 : 1 ≤ i) (h2 : i ≤ xs.length) : cls xs i = (rangeI 1 xs.length).filter (fun x => decide (hd xs x = hd xs i)) := by
  have hr := hd_range hw _ i (Nat.le_refl _) h1 h2
  unfold cls
  rw [clsF_eq]
  obtain ⟨p, hp⟩ : ∃ p : Nat, hd xs i = (p : Int) + 1 := ⟨(hd xs i - 1).toNat, by omega⟩
  have e : xs.length = p + (xs.length - p) := by omega
  conv => rhs; rw [e, rangeI_append, List.filter_append]
  have e0 : (rangeI 1 p).filter (fun x => decide (hd xs x = hd xs i)) = [] := by
    rw [List.filter_eq_nil_iff]
    intro x hx
    have hm := mem_rangeI.1 hx
    have := hd_range hw _ x (Nat.le_refl _) (by omega) (by omega)
    simp only [decide_eq_true_eq]; omega
  rw [e0, List.nil_append, hp]
  congr 2
  · omega
  · omega
theorem clss_eq (xs : List Int) : clss xs = ((rangeI 1 xs.length).filter (fun x => decide (hd xs x = x))).map (cls xs) := clssF_eq _ _ _
theorem hd_hd {xs : List Int} (hw : Wf xs) {i : Int} (h1 : 1 ≤ i) (h2 : i ≤ xs.length) : hd xs (hd xs i) = hd xs i := by
  have hr := hd_range hw _ i (Nat.le_refl _) h1 h2
  exact hd_stop hr.1 hr.2.2
theorem mem_cls {xs : List Int} (hw : Wf xs) {i : Int} (h1 : 1 ≤ i) (h2 : i ≤ xs.length) {x : Int} : x ∈ cls xs i ↔ (1 ≤ x ∧ x ≤ xs.length) ∧ hd xs x = hd xs i := by
  rw [cls_eq hw h1 h2, List.mem_filter, mem_rangeI]
  simp only [decide_eq_true_eq]
  constructor <;> rintro ⟨a, b⟩ <;> exact ⟨by omega, b⟩
theorem cls_sorted {xs : List Int} (hw : Wf xs) {i : Int} (h1 : 1 ≤ i) (h2 : i ≤ xs.length) : (cls xs i).Pairwise (· < ·) := by
  rw [cls_eq hw h1 h2]; exact (rangeI_sorted _ _).filter _
/-- the first of a class is its head -/
theorem cls_head {xs : List Int} (hw : Wf xs) {i : Int} (h1 : 1 ≤ i) (h2 : i ≤ xs.length) : ∃ t, cls xs i = hd xs i :: t := by
  have hr := hd_range hw _ i (Nat.le_refl _) h1 h2
  unfold cls
  obtain ⟨d, hd'⟩ : ∃ d, xs.length + 1 - (hd xs i).toNat = d + 1 := ⟨xs.length - (hd xs i).toNat, by omega⟩
  rw [hd']
  simp only [clsF]
  rw [if_pos (hd_hd hw h1 h2)]
  exact ⟨_, rfl⟩
theorem cls_congr {xs ys : List Int} (hl : xs.length = ys.length) (h : ∀ i : Int, 1 ≤ i → i ≤ xs.length → hd xs i = hd ys i) (hx : Wf xs) (hy : Wf ys) {i : Int} (h1 : 1 ≤ i) (h2 : i ≤ xs.length) : cls xs i = cls ys i := by
  rw [cls_eq hx h1 h2, cls_eq hy h1 (by omega), ← hl]
  apply List.filter_congr
  intro x hx'
  have := mem_rangeI.1 hx'
  rw [h x (by omega) (by omega), h i h1 h2]
theorem clss_congr {xs ys : List Int} (hl : xs.length = ys.length) (h : ∀ i : Int, 1 ≤ i → i ≤ xs.length → hd xs i = hd ys i) (hx : Wf xs) (hy : Wf ys) : clss xs = clss ys := by
  rw [clss_eq, clss_eq, ← hl]
  have e : (rangeI 1 xs.length).filter (fun x => decide (hd xs x = x)) = (rangeI 1 xs.length).filter (fun x => decide (hd ys x = x)) := by
    apply List.filter_congr
    intro x hx'
    have := mem_rangeI.1 hx'
    rw [h x (by omega) (by omega)]
  rw [e]
  apply List.map_congr_left
  intro x hx'
  have := mem_rangeI.1 (List.mem_filter.1 hx').1
  exact cls_congr hl h hx hy (by omega) (by omega)

/-! ### a join -/
theorem getD_set_ne (xs : List Int) (k : Nat) (u : Int) (j : Nat) (h : k ≠ j) : (xs.set k u).getD j 0 = xs.getD j 0 := by
  simp [List.getD_eq_getElem?_getD, List.getElem?_set, h]
theorem getD_set_eq (xs : List Int) (k : Nat) (u : Int) (h : k < xs.length) : (xs.set k u).getD k 0 = u := by
  simp [List.getD_eq_getElem?_getD, List.getElem?_set, h]
theorem hd_set {xs : List Int} (hw : Wf xs) {M m : Int} (m1 : 1 ≤ m) (mM : m < M) (hM2 : M ≤ xs.length) (hM : xs.getD (M - 1).toNat 0 = M) (hm : xs.getD (m - 1).toNat 0 = m)
    (hw2 : Wf (xs.set (M - 1).toNat m)) : ∀ (k : Nat) (i : Int), i.toNat ≤ k → 1 ≤ i → i ≤ xs.length → hd (xs.set (M - 1).toNat m) i = if hd xs i = M then m else hd xs i := by
  intro k
  induction k with
  | zero => intro i h0 h1 h2; omega
  | succ k ih =>
    intro i h0 h1 h2
    have ha := hw.at h1 h2
    by_cases e : xs.getD (i - 1).toNat 0 = i
    · rw [hd_stop h1 e]
      by_cases hiM : i = M
      · subst hiM
        rw [if_pos rfl]
        have e1 : (xs.set (i - 1).toNat m).getD (i - 1).toNat 0 = m := getD_set_eq _ _ _ (by omega)
        have e2 : (xs.set (i - 1).toNat m).getD (m - 1).toNat 0 = m := by rw [getD_set_ne _ _ _ _ (by omega)]; exact hm
        have s := hd_step hw2 h1 (by simpa using h2) (by rw [e1]; omega)
        rw [e1] at s
        rw [← s]
        exact hd_stop m1 e2
      · rw [if_neg hiM]
        exact hd_stop h1 (by rw [getD_set_ne _ _ _ _ (by omega)]; exact e)
    · have hiM : i ≠ M := fun he => e (by rw [he]; exact hM)
      have e1 : (xs.set (M - 1).toNat m).getD (i - 1).toNat 0 = xs.getD (i - 1).toNat 0 := getD_set_ne _ _ _ _ (by omega)
      have s1 := hd_step hw h1 h2 e
      have s2 := hd_step hw2 h1 (by simpa using h2) (by rw [e1]; exact e)
      rw [e1] at s2
      rw [← s2, ← s1]
      exact ih _ (by omega) ha.1 (by omega)
theorem hd_join {xs : List Int} (hw : Wf xs) {a b : Int} (a1 : 1 ≤ a) (a2 : a ≤ xs.length) (b1 : 1 ≤ b) (b2 : b ≤ xs.length) {i : Int} (h1 : 1 ≤ i) (h2 : i ≤ xs.length) :
    hd (joinOne xs a b).1 i = if hd xs i = max (hd xs a) (hd xs b) then min (hd xs a) (hd xs b) else hd xs i := by
  have hwf := joinOne_wf hw a1 a2 b1 b2
  have ra := hd_range hw _ a (Nat.le_refl _) a1 a2
  have rb := hd_range hw _ b (Nat.le_refl _) b1 b2
  unfold joinOne at hwf ⊢
  by_cases e : hd xs a = hd xs b
  · rw [if_pos e, ← e]
    simp only [Int.max_self, Int.min_self]
    split
    · assumption
    · rfl
  · rw [if_neg e] at hwf ⊢
    refine hd_set hw ?_ ?_ ?_ ?_ ?_ hwf _ i (Nat.le_refl _) h1 h2
    · omega
    · omega
    · omega
    · rcases Int.le_total (hd xs a) (hd xs b) with h | h
      · rw [Int.max_eq_right h]; exact rb.2.2
      · rw [Int.max_eq_left h]; exact ra.2.2
    · rcases Int.le_total (hd xs a) (hd xs b) with h | h
      · rw [Int.min_eq_left h]; exact ra.2.2
      · rw [Int.min_eq_right h]; exact rb.2.2
/-- who is in one class behind a join -/
theorem rel_join {xs : List Int} (hw : Wf xs) {a b : Int} (a1 : 1 ≤ a) (a2 : a ≤ xs.length) (b1 : 1 ≤ b) (b2 : b ≤ xs.length) {i j : Int} (h1 : 1 ≤ i) (h2 : i ≤ xs.length) (k1 : 1 ≤ j) (k2 : j ≤ xs.length) :
    hd (joinOne xs a b).1 i = hd (joinOne xs a b).1 j ↔ hd xs i = hd xs j ∨ (hd xs i = hd xs a ∧ hd xs j = hd xs b) ∨ (hd xs i = hd xs b ∧ hd xs j = hd xs a) := by
  rw [hd_join hw a1 a2 b1 b2 h1 h2, hd_join hw a1 a2 b1 b2 k1 k2]
  generalize hd xs a = p; generalize hd xs b = q; generalize hd xs i = u; generalize hd xs j = v
  split <;> split <;> omega

/-- all heads are those of the classes' own numbers; two that put the same together have the same heads -/
theorem hd_of_rel {xs ys : List Int} (hx : Wf xs) (hy : Wf ys) (hl : xs.length = ys.length)
    (h1 : ∀ i j : Int, 1 ≤ i → i ≤ xs.length → 1 ≤ j → j ≤ xs.length → hd xs i = hd xs j → hd ys i = hd ys j)
    (h2 : ∀ i j : Int, 1 ≤ i → i ≤ xs.length → 1 ≤ j → j ≤ xs.length → hd ys i = hd ys j → hd xs i = hd xs j) {i : Int} (a : 1 ≤ i) (b : i ≤ xs.length) : hd xs i = hd ys i := by
  have rx := hd_range hx _ i (Nat.le_refl _) a b
  have ry := hd_range hy _ i (Nat.le_refl _) a (by omega)
  have e1 := h1 i (hd xs i) a b rx.1 (by omega) (hd_hd hx a b).symm
  have e2 := h2 i (hd ys i) a b ry.1 (by omega) (hd_hd hy a (by omega)).symm
  have q1 := hd_range hy _ (hd xs i) (Nat.le_refl _) rx.1 (by omega)
  have q2 := hd_range hx _ (hd ys i) (Nat.le_refl _) ry.1 (by omega)
  omega
/-- what is put together stays together -/
theorem rel_mono {xs : List Int} (hw : Wf xs) {a b : Int} (a1 : 1 ≤ a) (a2 : a ≤ xs.length) (b1 : 1 ≤ b) (b2 : b ≤ xs.length) {i j : Int} (h1 : 1 ≤ i) (h2 : i ≤ xs.length) (k1 : 1 ≤ j) (k2 : j ≤ xs.length)
    (h : hd xs i = hd xs j) : hd (joinOne xs a b).1 i = hd (joinOne xs a b).1 j := (rel_join hw a1 a2 b1 b2 h1 h2 k1 k2).2 (Or.inl h)
theorem rel_new {xs : List Int} (hw : Wf xs) {a b : Int} (a1 : 1 ≤ a) (a2 : a ≤ xs.length) (b1 : 1 ≤ b) (b2 : b ≤ xs.length) : hd (joinOne xs a b).1 a = hd (joinOne xs a b).1 b :=
  (rel_join hw a1 a2 b1 b2 a1 a2 b1 b2).2 (Or.inr (Or.inl ⟨rfl, rfl⟩))
/-- how many heads there are -/
def heads (xs : List Int) : List Int := (rangeI 1 xs.length).filter (fun x => decide (hd xs x = x))
theorem clss_len (xs : List Int) : (clss xs).length = (heads xs).length := by rw [clss_eq, List.length_map]; rfl
theorem filter_ne_len {l : List Int} (hs : l.Pairwise (· < ·)) {x : Int} (hx : x ∈ l) : (l.filter (fun y => decide (y ≠ x))).length + 1 = l.length := by
  induction l with
  | nil => simp at hx
  | cons y l ih =>
    have hy : ∀ z ∈ l, y < z := fun z hz => List.rel_of_pairwise_cons hs hz
    have hs' := List.Pairwise.of_cons hs
    by_cases e : y = x
    · subst e
      have : (l.filter (fun z => decide (z ≠ y))) = l := by
        rw [List.filter_eq_self]
        intro z hz
        have := hy z hz
        simp; omega
      rw [List.filter_cons, if_neg (by simp), this]; rfl
    · have hx' : x ∈ l := by rcases List.mem_cons.1 hx with h | h; exact absurd h.symm e; exact h
      have := ih hs' hx'
      simp [e]; simpa using this
theorem heads_join {xs : List Int} (hw : Wf xs) {a b : Int} (a1 : 1 ≤ a) (a2 : a ≤ xs.length) (b1 : 1 ≤ b) (b2 : b ≤ xs.length) : ((heads (joinOne xs a b).1).length : Int) + (joinOne xs a b).2 = (heads xs).length := by
  have ra := hd_range hw _ a (Nat.le_refl _) a1 a2
  have rb := hd_range hw _ b (Nat.le_refl _) b1 b2
  by_cases e : hd xs a = hd xs b
  · have : joinOne xs a b = (xs, 0) := by unfold joinOne; rw [if_pos e]
    rw [this]; simp
  · have hlen := joinOne_len xs a b
    have e2 : (joinOne xs a b).2 = 1 := by unfold joinOne; rw [if_neg e]
    have e3 : heads (joinOne xs a b).1 = (heads xs).filter (fun y => decide (y ≠ max (hd xs a) (hd xs b))) := by
      unfold heads
      rw [hlen, List.filter_filter]
      apply List.filter_congr
      intro x hx
      have hm := mem_rangeI.1 hx
      rw [hd_join hw a1 a2 b1 b2 (by omega) (by omega)]
      have rx := hd_range hw _ x (Nat.le_refl _) (by omega) (by omega)
      have hh : hd xs x = max (hd xs a) (hd xs b) → hd xs (min (hd xs a) (hd xs b)) = min (hd xs a) (hd xs b) := by
        intro _
        rcases Int.le_total (hd xs a) (hd xs b) with h | h
        · rw [Int.min_eq_left h]; exact hd_hd hw a1 a2
        · rw [Int.min_eq_right h]; exact hd_hd hw b1 b2
      by_cases c : hd xs x = max (hd xs a) (hd xs b)
      · rw [if_pos c]
        have := hh c
        have n1 : ¬ min (hd xs a) (hd xs b) = x := by intro h; rw [h] at this; omega
        have n2 : hd xs x = x → ¬ x ≠ max (hd xs a) (hd xs b) := by intro h h'; omega
        by_cases c2 : hd xs x = x
        · simp [n1, c2]; have := n2 c2; omega
        · simp [n1, c2]
      · rw [if_neg c]
        by_cases c2 : hd xs x = x
        · simp [c2]; omega
        · simp [c2]
    rw [e2, e3]
    have hmem : max (hd xs a) (hd xs b) ∈ heads xs := by
      unfold heads
      rw [List.mem_filter, mem_rangeI]
      simp only [decide_eq_true_eq]
      rcases Int.le_total (hd xs a) (hd xs b) with h | h
      · rw [Int.max_eq_right h]; exact ⟨by omega, hd_hd hw b1 b2⟩
      · rw [Int.max_eq_left h]; exact ⟨by omega, hd_hd hw a1 a2⟩
    have hs : (heads xs).Pairwise (· < ·) := (rangeI_sorted _ _).filter _
    have := filter_ne_len hs hmem
    omega
/-- the numbers of all classes together -/
theorem sum_cls {xs : List Int} (hw : Wf xs) : ((clss xs).map List.length).sum = xs.length := by
  have key : ∀ d : Nat, d ≤ xs.length → (((rangeI 1 d).filter (fun x => decide (hd xs x = x))).map (fun h => (cls xs h).length)).sum = ((rangeI 1 xs.length).filter (fun x => decide (hd xs x ≤ d))).length := by
    intro d
    induction d with
    | zero =>
      intro _
      have : (rangeI 1 xs.length).filter (fun x => decide (hd xs x ≤ ((0 : Nat) : Int))) = [] := by
        rw [List.filter_eq_nil_iff]
        intro x hx
        have hm := mem_rangeI.1 hx
        have := hd_range hw _ x (Nat.le_refl _) (by omega) (by omega)
        simp only [decide_eq_true_eq]; omega
      rw [this]; rfl
    | succ d ih =>
      intro hd1
      have ihd := ih (by omega)
      rw [rangeI_append, List.filter_append, List.map_append, List.sum_append, ihd]
      have hsplit : ∀ l : List Int, (l.filter (fun x => decide (hd xs x ≤ ((d + 1 : Nat) : Int)))).length = (l.filter (fun x => decide (hd xs x ≤ (d : Int)))).length + (l.filter (fun x => decide (hd xs x = ((d + 1 : Nat) : Int)))).length := by
        intro l
        induction l with
        | nil => rfl
        | cons y l ihl =>
          simp only [List.filter_cons]
          by_cases c1 : hd xs y ≤ (d : Int)
          · have c2 : hd xs y ≤ ((d + 1 : Nat) : Int) := by omega
            have c3 : ¬ hd xs y = ((d + 1 : Nat) : Int) := by omega
            simp only [c1, c2, c3, decide_true, decide_false, if_true, List.length_cons, Bool.false_eq_true, if_false]; omega
          · by_cases c3 : hd xs y = ((d + 1 : Nat) : Int)
            · have c2 : hd xs y ≤ ((d + 1 : Nat) : Int) := by omega
              have c4 : ¬ (((d + 1 : Nat) : Int) ≤ (d : Int)) := by omega
              simp only [c4, c3, decide_true, decide_false, if_true, List.length_cons, Bool.false_eq_true, if_false, Int.le_refl]; omega
            · have c2 : ¬ hd xs y ≤ ((d + 1 : Nat) : Int) := by omega
              simp only [c1, c2, c3, decide_false, Bool.false_eq_true, if_false]; omega
      rw [hsplit]
      congr 1
      have hone : rangeI (1 + (d : Int)) 1 = [((d + 1 : Nat) : Int)] := by simp [rangeI]; omega
      rw [hone]
      by_cases c : hd xs ((d + 1 : Nat) : Int) = ((d + 1 : Nat) : Int)
      · simp only [List.filter_cons, c, decide_true, if_true, List.filter_nil, List.map_cons, List.map_nil, List.sum_cons, List.sum_nil]
        rw [cls_eq hw (by omega) (by omega), c]; rfl
      · simp only [List.filter_cons, c, decide_false, Bool.false_eq_true, if_false, List.filter_nil, List.map_nil, List.sum_nil]
        symm
        rw [List.length_eq_zero_iff, List.filter_eq_nil_iff]
        intro x hx
        have hm := mem_rangeI.1 hx
        simp only [decide_eq_true_eq]
        intro e
        have := hd_hd hw (i := x) (by omega) (by omega)
        rw [e] at this
        exact c this
  have h := key xs.length (Nat.le_refl _)
  rw [clss_eq, List.map_map]
  have e : ((rangeI 1 xs.length).filter (fun x => decide (hd xs x ≤ (xs.length : Int)))) = rangeI 1 xs.length := by
    rw [List.filter_eq_self]
    intro x hx
    have hm := mem_rangeI.1 hx
    have := hd_range hw _ x (Nat.le_refl _) (by omega) (by omega)
    simp only [decide_eq_true_eq]; omega
  rw [e, rangeI_len] at h
  exact h

/-! ### growth -/
theorem growTo_get (xs : List Int) (n : Nat) (j : Nat) (hj : j < n) (h : xs.length ≤ n) : (growTo xs n).getD j 0 = if j < xs.length then xs.getD j 0 else (j : Int) + 1 := by
  unfold growTo
  by_cases c : j < xs.length
  · rw [if_pos c]
    simp only [List.getD_eq_getElem?_getD]
    rw [List.getElem?_append_left c]
  · rw [if_neg c]
    simp only [List.getD_eq_getElem?_getD]
    rw [List.getElem?_append_right (by omega), List.getElem?_map, List.getElem?_range' (by omega)]
    simp; omega
theorem growTo_wf {xs : List Int} (hw : Wf xs) (n : Nat) (h : xs.length ≤ n) (hn : n ≤ 1000) : Wf (growTo xs n) := by
  have hl := growTo_len xs n h
  refine ⟨by omega, fun j hj => ?_, fun j hj => ?_⟩
  · rw [growTo_get xs n j (by omega) h]
    split
    · exact hw.lo j (by assumption)
    · omega
  · rw [growTo_get xs n j (by omega) h]
    split
    · exact hw.hi j (by assumption)
    · omega
theorem growTo_hd {xs : List Int} (hw : Wf xs) (n : Nat) (h : xs.length ≤ n) (hn : n ≤ 1000) : ∀ (k : Nat) (i : Int), i.toNat ≤ k → 1 ≤ i → i ≤ n → hd (growTo xs n) i = if i ≤ xs.length then hd xs i else i := by
  have hl := growTo_len xs n h
  have hw2 := growTo_wf hw n h hn
  intro k
  induction k with
  | zero => intro i h0 h1 h2; omega
  | succ k ih =>
    intro i h0 h1 h2
    have hg := growTo_get xs n (i - 1).toNat (by omega) h
    by_cases c : i ≤ xs.length
    · rw [if_pos c]
      rw [if_pos (by omega)] at hg
      have ha := hw.at h1 c
      by_cases e : xs.getD (i - 1).toNat 0 = i
      · rw [hd_stop h1 e]; exact hd_stop h1 (by rw [hg]; exact e)
      · have s2 := hd_step hw2 h1 (by omega) (by rw [hg]; exact e)
        rw [hg] at s2
        rw [← s2, ih _ (by omega) ha.1 (by omega), if_pos (by omega)]
        exact hd_step hw h1 c e
    · rw [if_neg c]
      rw [if_neg (by omega)] at hg
      exact hd_stop h1 (by rw [hg]; omega)
theorem cls_grow_old {xs : List Int} (hw : Wf xs) (n : Nat) (h : xs.length ≤ n) (hn : n ≤ 1000) {i : Int} (h1 : 1 ≤ i) (h2 : i ≤ xs.length) : cls (growTo xs n) i = cls xs i := by
  have hw2 := growTo_wf hw n h hn
  have hl := growTo_len xs n h
  rw [cls_eq hw2 h1 (by omega), cls_eq hw h1 h2, hl]
  have e : n = xs.length + (n - xs.length) := by omega
  conv => lhs; rw [e, rangeI_append, List.filter_append]
  have hi := growTo_hd hw n h hn _ i (Nat.le_refl _) h1 (by omega)
  rw [if_pos h2] at hi
  have ri := hd_range hw _ i (Nat.le_refl _) h1 h2
  have e0 : (rangeI (1 + (xs.length : Int)) (n - xs.length)).filter (fun x => decide (hd (growTo xs n) x = hd (growTo xs n) i)) = [] := by
    rw [List.filter_eq_nil_iff]
    intro x hx
    have hm := mem_rangeI.1 hx
    have := growTo_hd hw n h hn _ x (Nat.le_refl _) (by omega) (by omega)
    rw [if_neg (by omega)] at this
    simp only [decide_eq_true_eq, this, hi]; omega
  rw [← e, e0, List.append_nil]
  apply List.filter_congr
  intro x hx
  have hm := mem_rangeI.1 hx
  have := growTo_hd hw n h hn _ x (Nat.le_refl _) (by omega) (by omega)
  rw [if_pos (by omega)] at this
  rw [this, hi]
theorem cls_grow_new {xs : List Int} (hw : Wf xs) (n : Nat) (h : xs.length ≤ n) (hn : n ≤ 1000) {i : Int} (h1 : (xs.length : Int) < i) (h2 : i ≤ n) : cls (growTo xs n) i = [i] := by
  have hw2 := growTo_wf hw n h hn
  have hl := growTo_len xs n h
  have hi := growTo_hd hw n h hn _ i (Nat.le_refl _) (by omega) h2
  rw [if_neg (by omega)] at hi
  unfold cls
  rw [hi, hl, clsF_eq]
  obtain ⟨d, hd'⟩ : ∃ d, n + 1 - i.toNat = d + 1 := ⟨n - i.toNat, by omega⟩
  rw [hd']
  simp only [rangeI, List.filter_cons, hi, decide_true, if_true]
  congr 1
  rw [List.filter_eq_nil_iff]
  intro x hx
  have hm := mem_rangeI.1 hx
  have := growTo_hd hw n h hn _ x (Nat.le_refl _) (by omega) (by omega)
  rw [if_neg (by omega)] at this
  simp only [decide_eq_true_eq, this]; omega
theorem clss_grow {xs : List Int} (hw : Wf xs) (n : Nat) (h : xs.length ≤ n) (hn : n ≤ 1000) : clss (growTo xs n) = clss xs ++ (rangeI (1 + (xs.length : Int)) (n - xs.length)).map (fun i => [i]) := by
  have hw2 := growTo_wf hw n h hn
  have hl := growTo_len xs n h
  rw [clss_eq, clss_eq, hl]
  have e : n = xs.length + (n - xs.length) := by omega
  conv => lhs; rw [e, rangeI_append, List.filter_append, List.map_append]
  rw [← e]
  congr 1
  · have e1 : (rangeI 1 xs.length).filter (fun x => decide (hd (growTo xs n) x = x)) = (rangeI 1 xs.length).filter (fun x => decide (hd xs x = x)) := by
      apply List.filter_congr
      intro x hx
      have hm := mem_rangeI.1 hx
      have := growTo_hd hw n h hn _ x (Nat.le_refl _) (by omega) (by omega)
      rw [if_pos (by omega)] at this
      rw [this]
    rw [e1]
    apply List.map_congr_left
    intro x hx
    have hm := mem_rangeI.1 (List.mem_filter.1 hx).1
    exact cls_grow_old hw n h hn (by omega) (by omega)
  · have e1 : (rangeI (1 + (xs.length : Int)) (n - xs.length)).filter (fun x => decide (hd (growTo xs n) x = x)) = rangeI (1 + (xs.length : Int)) (n - xs.length) := by
      rw [List.filter_eq_self]
      intro x hx
      have hm := mem_rangeI.1 hx
      have := growTo_hd hw n h hn _ x (Nat.le_refl _) (by omega) (by omega)
      rw [if_neg (by omega)] at this
      simpa using this
    rw [e1]
    apply List.map_congr_left
    intro x hx
    have hm := mem_rangeI.1 hx
    exact cls_grow_new hw n h hn (by omega) (by omega)
theorem wf_nil : Wf [] := ⟨by decide, fun j hj => by simp at hj, fun j hj => by simp at hj⟩
theorem joinAll_wf (l0 : Int) : ∀ (l xs : List Int), Wf xs → 1 ≤ l0 → l0 ≤ xs.length → (∀ i ∈ l, 1 ≤ i ∧ i ≤ (xs.length : Int)) → Wf (joinAll l0 l xs).1 ∧ (joinAll l0 l xs).1.length = xs.length := by
  intro l
  induction l with
  | nil => intro xs h _ _ _; exact ⟨h, rfl⟩
  | cons i l ih =>
    intro xs h a1 a2 hin
    have hi := hin i (List.mem_cons_self)
    have hw := joinOne_wf h a1 a2 hi.1 hi.2
    have hl := joinOne_len xs l0 i
    have := ih (joinOne xs l0 i).1 hw a1 (by rw [hl]; exact a2) (fun j hj => by rw [hl]; exact hin j (List.mem_cons_of_mem _ hj))
    exact ⟨this.1, this.2.trans hl⟩
end Go.Proofs.Ytoiikbomdlnjlaa.Uf
