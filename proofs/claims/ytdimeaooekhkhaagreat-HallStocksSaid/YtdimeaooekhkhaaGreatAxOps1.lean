/- Proved: the runner's arithmetic is the model's. No function of the program is walked here. -/
import Derived.Test.YtdimeaooekhkhaaGreatAxMem
set_option linter.unusedVariables false
set_option linter.unusedSimpArgs false
namespace Go.Proofs.YtdimeaooekhkhaaGreat.AX
open Go.RowKit

/-- what is given of the numbers that are not known holds -/
def Fact.holds (E : Env) : Fact → Prop
  | .fit k e => k.wrap (e.val E) = e.val E
  | .lt a b r => decide (a.val E < b.val E) = r
  | .eq a b r => decide (a.val E = b.val E) = r
def FactsOK (E : Env) (fs : List Fact) : Prop := ∀ f ∈ fs, f.holds E

theorem okI_ok {S S' : St} {k : IntKind} {n : Int} {v : AV} (h : okI S k n = .ok (v, S')) : v = .int k n ∧ S' = S := by
  simp only [okI, seqI_eq] at h; cases h; exact ⟨rfl, rfl⟩
theorem okB_ok {S S' : St} {b : Bool} {v : AV} (h : okB S b = .ok (v, S')) : v = .bool b ∧ S' = S := by
  simp only [okB, seqB_eq] at h; cases h; exact ⟨rfl, rfl⟩
theorem okN_ok {S S' : St} {n : Nat} {v : AV} (h : okN S n = .ok (v, S')) : v = .int .i64 n ∧ S' = S := by
  simp only [okN, seqN_eq] at h; cases h; exact ⟨rfl, rfl⟩
theorem rok_ok {S S' : St} {u v : AV} (h : rok u S = .ok (v, S')) : v = u ∧ S' = S := by
  cases h; exact ⟨rfl, rfl⟩
theorem err_ok {s : String} {p : AV × St} (h : err s = .ok p) : False := by cases h

section
variable {P : Program}
theorem binII_spec {op : BinOp} {S S' : St} {k j : IntKind} {a b : Int} {v : AV} (h : binII op S k a j b = .ok (v, S')) :
    S' = S ∧ ∃ x, (∀ E ρ, VR E ρ v x) ∧ ∀ t xo yo u, (do eqGuard op t xo yo (.int k a) (.int j b); binOp op t (.int k a) (.int j b)).run P u = .ok x u := by
  cases op
  case shl =>
    have h : cnd (ilt b 0) (err "shift") (okI S k (wrapA k (a * 2 ^ (min b.toNat k.bits)))) = .ok (v, S') := h
    cases hb : ilt b 0 with
    | true => rw [hb] at h; exact (err_ok h).elim
    | false =>
      rw [hb] at h
      rw [ilt_eq] at hb
      obtain ⟨rfl, rfl⟩ := okI_ok h
      refine ⟨rfl, _, fun _ _ => rfl, fun t xo yo u => ?_⟩
      have : ¬ b < 0 := by simpa using hb
      simp only [go_sem, Op.shift, if_neg this, wrapA_eq, Sem.run_bind, Sem.run_pure, Result.andThen_ok]
  case shr =>
    have h : cnd (ilt b 0) (err "shift") (okI S k (a.fdiv (2 ^ (min b.toNat k.bits)))) = .ok (v, S') := h
    cases hb : ilt b 0 with
    | true => rw [hb] at h; exact (err_ok h).elim
    | false =>
      rw [hb] at h
      rw [ilt_eq] at hb
      obtain ⟨rfl, rfl⟩ := okI_ok h
      refine ⟨rfl, _, fun _ _ => rfl, fun t xo yo u => ?_⟩
      have : ¬ b < 0 := by simpa using hb
      simp only [go_sem, Op.shift, if_neg this, Sem.run_bind, Sem.run_pure, Result.andThen_ok]
  all_goals
    simp only [binII, cnd_eq] at h
    split at h
    · rename_i hk
      have hk := kindEq_iff.1 hk
      subst hk
      simp only [arOp, arAdd, arSub, arMul, arQuo, arRem, arAnd, arOr, arXor, arAndNot, arEql, arNeq, arLss, arLeq, arGtr, arGeq, cnd_eq] at h
      first
      | (obtain ⟨rfl, rfl⟩ := okI_ok h
         refine ⟨rfl, _, fun _ _ => rfl, fun t xo yo u => ?_⟩
         simp only [go_sem, Op.intArith, Op.intBits, wrapA_eq, Sem.run_bind, Sem.run_pure, Result.andThen_ok]
         try rfl)
      | (obtain ⟨rfl, rfl⟩ := okB_ok h
         refine ⟨rfl, _, fun _ _ => rfl, fun t xo yo u => ?_⟩
         simp only [go_sem, ibeq_eq, ilt_eq, Sem.run_bind, Sem.run_pure, Result.andThen_ok]
         try first | rfl | (congr 2; first | rfl | (rw [Bool.eq_iff_iff]; simp; try omega)))
      | (split at h
         · exact (err_ok h).elim
         · rename_i hb
           obtain ⟨rfl, rfl⟩ := okI_ok h
           refine ⟨rfl, _, fun _ _ => rfl, fun t xo yo u => ?_⟩
           have hz : ¬ b = 0 := by rw [ibeq_eq] at hb; simpa using hb
           simp only [go_sem, Op.intDiv, if_neg hz, wrapA_eq, Sem.run_bind, Sem.run_pure, Result.andThen_ok])
    · exact (err_ok h).elim

theorem findF_spec {fs : List Fact} {f : Fact → Option Bool} {b : Bool} (h : findF fs f = some b) : ∃ x ∈ fs, f x = some b := by
  induction fs with
  | nil => cases h
  | cons x fs ih =>
    have h : oif (f x) (findF fs f) (fun b => some b) = some b := h
    cases hx : f x with
    | none => rw [hx] at h; obtain ⟨y, hy, e⟩ := ih h; exact ⟨y, by simp [hy], e⟩
    | some c => rw [hx] at h; cases h; exact ⟨x, by simp, hx⟩
theorem ibeq_same (a : Int) : ibeq a a = true := by cases a <;> exact Nat.beq_refl _
theorem ibeq_of {a b : Int} (h : ibeq a b = true) : a = b := by
  cases a <;> cases b <;> simp only [ibeq] at h <;> first | (rw [Nat.eq_of_beq_eq_true h]) | cases h
theorem both_of {a b : Bool} (h : cnd a b false = true) : a = true ∧ b = true := by
  cases a with
  | false => cases h
  | true => exact ⟨rfl, h⟩
theorem ieq_same : ∀ a : IE, ieq a a = true
  | .var i => Nat.beq_refl i
  | .lit n => ibeq_same n
  | .add a b => by show cnd (ieq a a) (ieq b b) false = true; rw [ieq_same a, ieq_same b]; rfl
  | .sub a b => by show cnd (ieq a a) (ieq b b) false = true; rw [ieq_same a, ieq_same b]; rfl
  | .mul a b => by show cnd (ieq a a) (ieq b b) false = true; rw [ieq_same a, ieq_same b]; rfl
  | .quo a b => by show cnd (ieq a a) (ieq b b) false = true; rw [ieq_same a, ieq_same b]; rfl
  | .rem a b => by show cnd (ieq a a) (ieq b b) false = true; rw [ieq_same a, ieq_same b]; rfl
theorem ieq_of : ∀ {a b : IE}, ieq a b = true → a = b
  | .var i, .var j, h => by rw [Nat.eq_of_beq_eq_true (show Nat.beq i j = true from h)]
  | .lit n, .lit m, h => by rw [ibeq_of (show ibeq n m = true from h)]
  | .add a b, .add c d, h => by obtain ⟨h1, h2⟩ := both_of (show cnd (ieq a c) (ieq b d) false = true from h); rw [ieq_of h1, ieq_of h2]
  | .sub a b, .sub c d, h => by obtain ⟨h1, h2⟩ := both_of (show cnd (ieq a c) (ieq b d) false = true from h); rw [ieq_of h1, ieq_of h2]
  | .mul a b, .mul c d, h => by obtain ⟨h1, h2⟩ := both_of (show cnd (ieq a c) (ieq b d) false = true from h); rw [ieq_of h1, ieq_of h2]
  | .quo a b, .quo c d, h => by obtain ⟨h1, h2⟩ := both_of (show cnd (ieq a c) (ieq b d) false = true from h); rw [ieq_of h1, ieq_of h2]
  | .rem a b, .rem c d, h => by obtain ⟨h1, h2⟩ := both_of (show cnd (ieq a c) (ieq b d) false = true from h); rw [ieq_of h1, ieq_of h2]
  | .var _, .lit _, h => by cases h
  | .var _, .add _ _, h => by cases h
  | .var _, .sub _ _, h => by cases h
  | .var _, .mul _ _, h => by cases h
  | .var _, .quo _ _, h => by cases h
  | .var _, .rem _ _, h => by cases h
  | .lit _, .var _, h => by cases h
  | .lit _, .add _ _, h => by cases h
  | .lit _, .sub _ _, h => by cases h
  | .lit _, .mul _ _, h => by cases h
  | .lit _, .quo _ _, h => by cases h
  | .lit _, .rem _ _, h => by cases h
  | .add _ _, .var _, h => by cases h
  | .add _ _, .lit _, h => by cases h
  | .add _ _, .sub _ _, h => by cases h
  | .add _ _, .mul _ _, h => by cases h
  | .add _ _, .quo _ _, h => by cases h
  | .add _ _, .rem _ _, h => by cases h
  | .sub _ _, .var _, h => by cases h
  | .sub _ _, .lit _, h => by cases h
  | .sub _ _, .add _ _, h => by cases h
  | .sub _ _, .mul _ _, h => by cases h
  | .sub _ _, .quo _ _, h => by cases h
  | .sub _ _, .rem _ _, h => by cases h
  | .mul _ _, .var _, h => by cases h
  | .mul _ _, .lit _, h => by cases h
  | .mul _ _, .add _ _, h => by cases h
  | .mul _ _, .sub _ _, h => by cases h
  | .mul _ _, .quo _ _, h => by cases h
  | .mul _ _, .rem _ _, h => by cases h
  | .quo _ _, .var _, h => by cases h
  | .quo _ _, .lit _, h => by cases h
  | .quo _ _, .add _ _, h => by cases h
  | .quo _ _, .sub _ _, h => by cases h
  | .quo _ _, .mul _ _, h => by cases h
  | .quo _ _, .rem _ _, h => by cases h
  | .rem _ _, .var _, h => by cases h
  | .rem _ _, .lit _, h => by cases h
  | .rem _ _, .add _ _, h => by cases h
  | .rem _ _, .sub _ _, h => by cases h
  | .rem _ _, .mul _ _, h => by cases h
  | .rem _ _, .quo _ _, h => by cases h
theorem ieq_iff {a b : IE} : ieq a b = true ↔ a = b := ⟨ieq_of, fun h => h ▸ ieq_same a⟩
theorem askFit_spec {E : Env} {fs : List Fact} (hf : FactsOK E fs) {k : IntKind} {e : IE} (h : askFit fs k e = true) : k.wrap (e.val E) = e.val E := by
  unfold askFit at h
  revert h
  generalize hq : findF fs _ = r
  intro h
  cases r with
  | none => cases h
  | some b =>
    obtain ⟨x, hx, hb⟩ := findF_spec hq
    have := hf x hx
    cases x with
    | fit j y =>
      simp only [cnd_eq] at hb
      split at hb
      · rename_i hk
        split at hb
        · rename_i hy
          rw [kindEq_iff] at hk
          rw [ieq_iff] at hy
          subst hk; subst hy
          exact this
        · cases hb
      · cases hb
    | lt _ _ _ => cases hb
    | eq _ _ _ => cases hb
theorem askLt_spec {E : Env} {fs : List Fact} (hf : FactsOK E fs) {a b : IE} {r : Bool} (h : askLt fs a b = some r) : decide (a.val E < b.val E) = r := by
  obtain ⟨x, hx, hb⟩ := findF_spec h
  have := hf x hx
  cases x with
  | lt y z q =>
    simp only [cnd_eq] at hb
    split at hb
    · rename_i hk
      split at hb
      · rename_i hy
        rw [ieq_iff] at hk hy
        subst hk; subst hy
        cases hb
        exact this
      · cases hb
    · cases hb
  | fit _ _ => cases hb
  | eq _ _ _ => cases hb
theorem askEq_spec {E : Env} {fs : List Fact} (hf : FactsOK E fs) {a b : IE} {r : Bool} (h : askEq fs a b = some r) : decide (a.val E = b.val E) = r := by
  obtain ⟨x, hx, hb⟩ := findF_spec h
  have := hf x hx
  cases x with
  | eq y z q =>
    simp only [cnd_eq] at hb
    split at hb
    · rename_i hk
      split at hb
      · rename_i hy
        rw [ieq_iff] at hk hy
        subst hk; subst hy
        cases hb
        exact this
      · cases hb
    · cases hb
  | fit _ _ => cases hb
  | lt _ _ _ => cases hb
theorem symI_ok {E : Env} {fs : List Fact} (hf : FactsOK E fs) {S S' : St} {k : IntKind} {e : IE} {v : AV} (h : symI fs S k e = .ok (v, S')) : v = .sym k e ∧ S' = S ∧ k.wrap (e.val E) = e.val E := by
  unfold symI at h
  obtain ⟨hc, h⟩ := cnd_eq_ok h
  obtain ⟨rfl, rfl⟩ := rok_ok h
  exact ⟨rfl, rfl, askFit_spec hf hc⟩
theorem symB_ok {S S' : St} {neg : Bool} {w : String} {r : Option Bool} {v : AV} (h : symB S neg w r = .ok (v, S')) : ∃ b, r = some b ∧ v = .bool (if neg then !b else b) ∧ S' = S := by
  unfold symB at h
  obtain ⟨b, hb, h⟩ := oif_eq_ok h
  obtain ⟨rfl, rfl⟩ := okB_ok h
  exact ⟨b, hb, by rw [cnd_eq], rfl⟩
theorem IE.of_spec {E : Env} {ρ : Ren} {v : AV} {x : Value} {k : IntKind} {e : IE} (hv : VR E ρ v x) (hk : AV.kind v = some k) (he : IE.of v = some e) : x = .int k (e.val E) := by
  cases v <;> simp only [AV.kind, IE.of] at hk he <;> (try (cases hk; done)) <;> cases hk <;> cases he <;> exact hv
theorem iadd_val (E : Env) (a b : IE) : (iadd a b).val E = a.val E + b.val E := by
  unfold iadd
  split
  · simp [IE.val]
  · simp [IE.val]
  · rfl
theorem isub_val (E : Env) (a b : IE) : (isub a b).val E = a.val E - b.val E := by
  unfold isub
  split
  · simp [IE.val]
  · rfl
theorem isNz_spec {E : Env} {fs : List Fact} (hf : FactsOK E fs) {b : IE} (h : isNz fs b = true) : b.val E ≠ 0 := by
  unfold isNz at h
  split at h
  · rename_i n
    rw [ibeq_eq] at h
    intro e
    have e : n = 0 := e
    subst e
    cases h
  · cases hq : askEq fs b (.lit 0) with
    | none => rw [hq] at h; cases h
    | some r =>
      rw [hq] at h
      have := askEq_spec hf hq
      cases r with
      | true => cases h
      | false => exact of_decide_eq_false this
theorem symQ_ok {E : Env} {fs : List Fact} (hf : FactsOK E fs) {S S' : St} {k : IntKind} {a b : IE} {v : AV} (h : symQ fs S k a b = .ok (v, S')) : v = .sym k (.quo a b) ∧ S' = S ∧ b.val E ≠ 0 ∧ k.wrap ((a.val E).tdiv (b.val E)) = (a.val E).tdiv (b.val E) := by
  obtain ⟨h1, h2⟩ := cnd_eq_ok h
  obtain ⟨h3, h4, h5⟩ := symI_ok hf h2
  exact ⟨h3, h4, isNz_spec hf h1, h5⟩
theorem symR_ok {E : Env} {fs : List Fact} (hf : FactsOK E fs) {ρ : Ren} {S S' : St} {k : IntKind} {a b : IE} {v : AV} (h : symR fs S k a b = .ok (v, S')) : S' = S ∧ b.val E ≠ 0 ∧ VR E ρ v (.int k ((a.val E).tmod (b.val E))) := by
  unfold symR at h
  split at h
  · obtain ⟨rfl, rfl⟩ := okI_ok h
    exact ⟨rfl, by show (1 : Int) ≠ 0; decide, by show _ = _; simp [IE.val]⟩
  · obtain ⟨h1, h2⟩ := cnd_eq_ok h
    obtain ⟨rfl, h4, h5⟩ := symI_ok hf h2
    exact ⟨h4, isNz_spec hf h1, rfl⟩
theorem binYS_spec {E : Env} {ρ : Ren} {fs : List Fact} (hf : FactsOK E fs) {op : BinOp} {S S' : St} {ax ay v : AV} {x y : Value} (hx : VR E ρ ax x) (hy : VR E ρ ay y) (h : binYS fs op S ax ay = .ok (v, S')) :
    S' = S ∧ ∃ z, VR E ρ v z ∧ ∀ t xo yo u, (do eqGuard op t xo yo x y; binOp op t x y).run P u = .ok z u := by
  unfold binYS at h
  obtain ⟨k, hk, h1⟩ := oif_eq_ok h
  obtain ⟨j, hj, h2⟩ := oif_eq_ok h1
  obtain ⟨a, ha, h3⟩ := oif_eq_ok h2
  obtain ⟨b, hb, h4⟩ := oif_eq_ok h3
  obtain ⟨hkj, h5⟩ := cnd_eq_ok h4
  clear h h1 h2 h3 h4
  rw [kindEq_iff] at hkj
  subst hkj
  rw [IE.of_spec hx hk ha, IE.of_spec hy hj hb]
  have h := h5
  clear h5
  cases op <;> simp only [binYY] at h
  case add =>
    obtain ⟨rfl, rfl, hw⟩ := symI_ok hf h
    rw [iadd_val] at hw
    refine ⟨rfl, _, rfl, fun t xo yo u => ?_⟩
    simp only [go_sem, Op.intArith, Sem.run_bind, Sem.run_pure, Result.andThen_ok, iadd_val, hw]
  case sub =>
    obtain ⟨rfl, rfl, hw⟩ := symI_ok hf h
    rw [isub_val] at hw
    refine ⟨rfl, _, rfl, fun t xo yo u => ?_⟩
    simp only [go_sem, Op.intArith, Sem.run_bind, Sem.run_pure, Result.andThen_ok, isub_val, hw]
  case mul =>
    obtain ⟨rfl, rfl, hw⟩ := symI_ok hf h
    refine ⟨rfl, _, rfl, fun t xo yo u => ?_⟩
    simp only [IE.val] at hw
    simp only [go_sem, Op.intArith, Sem.run_bind, Sem.run_pure, Result.andThen_ok, IE.val, hw]
  case quo =>
    obtain ⟨rfl, rfl, hz, hw⟩ := symQ_ok hf h
    refine ⟨rfl, _, rfl, fun t xo yo u => ?_⟩
    simp only [go_sem, Op.intDiv, if_neg hz, Sem.run_bind, Sem.run_pure, Result.andThen_ok, IE.val, hw]
  case rem =>
    obtain ⟨rfl, hz, hv⟩ := symR_ok (ρ := ρ) hf h
    refine ⟨rfl, _, hv, fun t xo yo u => ?_⟩
    simp only [go_sem, Op.intDiv, if_neg hz, Sem.run_bind, Sem.run_pure, Result.andThen_ok]
  case lss =>
    obtain ⟨r, hr, rfl, rfl⟩ := symB_ok h
    have := askLt_spec hf hr
    refine ⟨rfl, _, rfl, fun t xo yo u => ?_⟩
    simp [go_sem, ← this]
  case leq =>
    obtain ⟨r, hr, rfl, rfl⟩ := symB_ok h
    have := askLt_spec hf hr
    refine ⟨rfl, _, rfl, fun t xo yo u => ?_⟩
    simp [go_sem, ← this]
    rw [Bool.eq_iff_iff]; simp
  case gtr =>
    obtain ⟨r, hr, rfl, rfl⟩ := symB_ok h
    have := askLt_spec hf hr
    refine ⟨rfl, _, rfl, fun t xo yo u => ?_⟩
    simp [go_sem, ← this]
  case geq =>
    obtain ⟨r, hr, rfl, rfl⟩ := symB_ok h
    have := askLt_spec hf hr
    refine ⟨rfl, _, rfl, fun t xo yo u => ?_⟩
    simp [go_sem, ← this]
    rw [Bool.eq_iff_iff]; simp
  case eql =>
    obtain ⟨r, hr, rfl, rfl⟩ := symB_ok h
    have := askEq_spec hf hr
    refine ⟨rfl, _, rfl, fun t xo yo u => ?_⟩
    simp only [go_sem, Sem.run_bind, Sem.run_pure, Result.andThen_ok, ← this]
    congr 2
  case neq =>
    obtain ⟨r, hr, rfl, rfl⟩ := symB_ok h
    have := askEq_spec hf hr
    refine ⟨rfl, _, rfl, fun t xo yo u => ?_⟩
    simp only [go_sem, Sem.run_bind, Sem.run_pure, Result.andThen_ok, ← this]
    congr 2
  all_goals exact (err_ok h).elim

theorem mkS_inj {a b : List Nat} (ha : ∀ n ∈ a, n < 256) (hb : ∀ n ∈ b, n < 256) : (mkS a).toList = (mkS b).toList ↔ a = b := by
  simp only [mkS, ByteArray.toList_mk]
  constructor
  · intro h
    induction a generalizing b with
    | nil => cases b with
      | nil => rfl
      | cons _ _ => simp at h
    | cons x a ih =>
      cases b with
      | nil => simp at h
      | cons y b =>
        simp only [List.map_cons, List.cons.injEq] at h
        have hx := ha x (by simp)
        have hy := hb y (by simp)
        have e : x = y := by
          have := congrArg UInt8.toNat h.1
          simpa [UInt8.toNat_ofNat, Nat.mod_eq_of_lt hx, Nat.mod_eq_of_lt hy] using this
        rw [e, ih (fun n hn => ha n (by simp [hn])) (fun n hn => hb n (by simp [hn])) h.2]
  · intro h; rw [h]
theorem llt_spec : ∀ {a b : List Nat}, (∀ n ∈ a, n < 256) → (∀ n ∈ b, n < 256) → llt a b = Op.bytesLess (a.map UInt8.ofNat) (b.map UInt8.ofNat)
  | [], [], _, _ => rfl
  | [], _ :: _, _, _ => rfl
  | _ :: _, [], _, _ => rfl
  | x :: a, y :: b, ha, hb => by
    have hx := ha x (by simp)
    have hy := hb y (by simp)
    have ih := llt_spec (a := a) (b := b) (fun n hn => ha n (by simp [hn])) (fun n hn => hb n (by simp [hn]))
    show cnd (Nat.blt x y) true (cnd (Nat.beq x y) (llt a b) false) = _
    rw [ih]
    simp only [List.map_cons, Op.bytesLess, cnd_eq]
    have e1 : (UInt8.ofNat x < UInt8.ofNat y) ↔ x < y := by
      rw [UInt8.lt_iff_toNat_lt]; simp [Nat.mod_eq_of_lt hx, Nat.mod_eq_of_lt hy]
    have e2 : (UInt8.ofNat x = UInt8.ofNat y) ↔ x = y := by
      rw [← UInt8.toNat_inj]; simp [Nat.mod_eq_of_lt hx, Nat.mod_eq_of_lt hy]
    by_cases h1 : x < y
    · rw [if_pos (by simpa using h1)]; simp [e1.2 h1]
    · rw [if_neg (by simpa using h1)]
      by_cases h2 : x = y
      · subst h2; simp [Nat.beq_eq]
      · have : Nat.beq x y = false := by cases hb : Nat.beq x y with | true => exact absurd (Nat.eq_of_beq_eq_true hb) h2 | false => rfl
        rw [this]
        simp [e1, e2, h1, h2]
theorem binSS_spec {op : BinOp} {S S' : St} {a b : List Nat} {v : AV} (ha : ∀ n ∈ a, n < 256) (hb : ∀ n ∈ b, n < 256) (h : binSS op S a b = .ok (v, S')) :
    S' = S ∧ ∃ x, (∀ E ρ, VR E ρ v x) ∧ ∀ t xo yo u, (do eqGuard op t xo yo (.string (mkS a)) (.string (mkS b)); binOp op t (.string (mkS a)) (.string (mkS b))).run P u = .ok x u := by
  have hlt : ∀ {a b : List Nat}, (∀ n ∈ a, n < 256) → (∀ n ∈ b, n < 256) → Op.bytesLess (mkS a).toList (mkS b).toList = llt a b := fun ha hb => by
    rw [llt_spec ha hb]; simp [mkS]
  have heq : ((mkS a).toList == (mkS b).toList) = leq a b := by
    rw [leq_eq, Bool.eq_iff_iff]; simp [mkS_inj ha hb]
  have asym : ∀ {a b : List Nat}, llt a b = true → llt b a = false := by
    intro a
    induction a with
    | nil => intro b h; cases b <;> first | rfl | cases h
    | cons x a ih =>
      intro b h
      cases b with
      | nil => cases h
      | cons y b =>
        have hq : cnd (Nat.blt x y) true (cnd (Nat.beq x y) (llt a b) false) = true := h
        clear h
        show cnd (Nat.blt y x) true (cnd (Nat.beq y x) (llt b a) false) = false
        simp only [cnd_eq] at hq ⊢
        by_cases h1 : x < y
        · rw [if_neg (by simp; omega), if_neg (by simp; omega)]
        · rw [if_neg (by simpa using h1)] at hq
          by_cases h2 : x = y
          · subst h2
            rw [if_pos (by simp)] at hq
            rw [if_neg (by simp), if_pos (by simp)]
            exact ih hq
          · rw [if_neg (by simpa using h2)] at hq
            cases hq
  have total : ∀ {a b : List Nat}, llt b a = (!(llt a b || leq a b)) := by
    intro a
    induction a with
    | nil => intro b; cases b <;> rfl
    | cons x a ih =>
      intro b
      cases b with
      | nil => rfl
      | cons y b =>
        show cnd (Nat.blt y x) true (cnd (Nat.beq y x) (llt b a) false) = !(cnd (Nat.blt x y) true (cnd (Nat.beq x y) (llt a b) false) || cnd (Nat.beq x y) (leq a b) false)
        simp only [cnd_eq]
        by_cases h1 : y < x
        · rw [if_pos (by simpa using h1), if_neg (by simp; omega), if_neg (by simp; omega), if_neg (by simp; omega)]; rfl
        · rw [if_neg (by simpa using h1)]
          by_cases h2 : y = x
          · subst h2
            rw [if_pos (by simp), if_neg (by simp), if_pos (by simp), if_pos (by simp)]
            exact ih
          · rw [if_neg (by simpa using h2), if_pos (by simp; omega)]; rfl
  cases op <;> simp only [binSS] at h
  case add =>
    obtain ⟨hl, h⟩ := cnd_eq_ok h
    rw [seqL_eq] at h
    obtain ⟨rfl, rfl⟩ := rok_ok h
    refine ⟨rfl, .string (mkS a ++ mkS b), fun E ρ => ⟨?_, fun n hn => ?_⟩, fun t xo yo u => ?_⟩
    · congr 1
      apply ByteArray.ext
      simp [mkS]
    · rcases List.mem_append.1 hn with hn | hn
      · exact ha n hn
      · exact hb n hn
    · have h1 : ¬ (((mkS a).size + (mkS b).size : Nat) : Int) > IntKind.i64.max := by
        have hl : llen a + llen b < 9223372036854775808 := by simpa using hl
        have e1 : (mkS a).size = a.length := by simp [mkS, ByteArray.size]
        have e2 : (mkS b).size = b.length := by simp [mkS, ByteArray.size]
        rw [llen_eq, llen_eq] at hl
        rw [e1, e2, IntKind.max_i64]; omega
      simp only [go_sem, binOp, Op.stringOp, if_neg h1, Sem.run_bind, Sem.run_pure, Result.andThen_ok]
  case eql =>
    obtain ⟨rfl, rfl⟩ := okB_ok h
    refine ⟨rfl, _, fun _ _ => rfl, fun t xo yo u => ?_⟩
    simp only [eqGuard_at_string, binOp, Op.stringOp, heq, Sem.run_bind, Sem.run_pure, Result.andThen_ok]
  case neq =>
    obtain ⟨rfl, rfl⟩ := okB_ok h
    refine ⟨rfl, _, fun _ _ => rfl, fun t xo yo u => ?_⟩
    simp only [eqGuard_at_string, binOp, Op.stringOp, heq, Sem.run_bind, Sem.run_pure, Result.andThen_ok]
  case lss =>
    obtain ⟨rfl, rfl⟩ := okB_ok h
    refine ⟨rfl, _, fun _ _ => rfl, fun t xo yo u => ?_⟩
    simp only [eqGuard_at_string, binOp, Op.stringOp, hlt ha hb, Sem.run_bind, Sem.run_pure, Result.andThen_ok]
  case leq =>
    obtain ⟨rfl, rfl⟩ := okB_ok h
    refine ⟨rfl, _, fun _ _ => rfl, fun t xo yo u => ?_⟩
    simp only [eqGuard_at_string, binOp, Op.stringOp, hlt ha hb, heq, Sem.run_bind, Sem.run_pure, Result.andThen_ok, total (a := a) (b := b), Bool.not_not]
  case gtr =>
    obtain ⟨rfl, rfl⟩ := okB_ok h
    refine ⟨rfl, _, fun _ _ => rfl, fun t xo yo u => ?_⟩
    simp only [eqGuard_at_string, binOp, Op.stringOp, hlt ha hb, heq, Sem.run_bind, Sem.run_pure, Result.andThen_ok, total (a := a) (b := b)]
  case geq =>
    obtain ⟨rfl, rfl⟩ := okB_ok h
    refine ⟨rfl, _, fun _ _ => rfl, fun t xo yo u => ?_⟩
    simp only [eqGuard_at_string, binOp, Op.stringOp, hlt ha hb, Sem.run_bind, Sem.run_pure, Result.andThen_ok]
  all_goals exact (err_ok h).elim
end
end Go.Proofs.YtdimeaooekhkhaaGreat.AX
