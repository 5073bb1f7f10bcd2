/- Proved: the runner's operations that hang on their operands alone do what the model's do. No function of the program is walked here. -/
import Derived.Test.YtdimeaooekhkhaaGreatAxOps1
import Derived.Laws.StructEq
import Derived.ChangeKeysEq
import Derived.Laws.Cover1
set_option linter.unusedVariables false
set_option linter.unusedSimpArgs false
namespace Go.Proofs.YtdimeaooekhkhaaGreat.AX
open Go.RowKit

/-- the runner's operand tells the operand's value -/
def Hop (E : Env) (ρ : Ren) (f : Operand → Value) (tm : Tm) (x : Operand) : Prop := ∀ xa, XA.of x = some xa → VR E ρ (ev xa tm) (f x)
/-- the operation yields, in whatever world -/
def Yl (P : Program) (f : Operand → Value) (o : Oper) (E : Env) (ρ : Ren) (v : AV) : Prop := ∃ x, VR E ρ v x ∧ ∀ u, (execOp f o).run P u = .ok (.value x) u

theorem mapO {α β : Type} {o : Option α} {f : α → β} {b : β} (h : o.map f = some b) : ∃ a, o = some a ∧ f a = b := by
  cases o with
  | none => cases h
  | some a => cases h; exact ⟨a, rfl, rfl⟩
theorem evs_eq {β : Type} (tm : Tm) : ∀ (l : List XA) (f : List AV → β), evs tm l f = f (l.map (ev · tm))
  | [], f => rfl
  | x :: l, f => by
    show seqV (ev x tm) (fun v => evs tm l fun r => f (v :: r)) = _
    rw [seqV_eq, evs_eq tm l]
    rfl
theorem ofs_VRs {E : Env} {ρ : Ren} {f : Operand → Value} {tm : Tm} : ∀ {l : List Operand} {xl : List XA}, XA.ofs l = some xl → (∀ x ∈ l, Hop E ρ f tm x) → VRs E ρ (xl.map (ev · tm)) (l.map f)
  | [], xl, h, _ => by cases h; trivial
  | x :: l, xl, h, hH => by
    unfold XA.ofs at h
    split at h
    · rename_i a r ha hr
      cases h
      exact ⟨hH x (by simp) a ha, ofs_VRs hr (fun y hy => hH y (by simp [hy]))⟩
    · cases h

section
variable {P : Program} {E : Env} {B : Nat} {ρ : Ren} {S S' : St} {w : World} {f : Operand → Value} {tm : Tm} {fs : List Fact} {call : CallT} {v : AV} {o : Oper}

theorem eqIn_ptr_l (d : Nat) (u : World) {t e : TypeId} (h : P.underlying t = some (.pointer e)) (b : Option Addr) : (Op.equalIn (d + 1) t (.pointer none) (.pointer b)).run P u = .ok b.isNone u := by
  simp only [Op.equalIn, Sem.run_bind, run_underlying h, Result.andThen_ok, Sem.run_pure]
theorem eqIn_ptr_r (d : Nat) (u : World) {t e : TypeId} (h : P.underlying t = some (.pointer e)) (a : Addr) : (Op.equalIn (d + 1) t (.pointer (some a)) (.pointer none)).run P u = .ok false u := by
  simp only [Op.equalIn, Sem.run_bind, run_underlying h, Result.andThen_ok, Sem.run_pure]
theorem eqIn_ptr_same (d : Nat) (u : World) {t e : TypeId} {i : TypeInfo} (h : P.underlying t = some (.pointer e)) (hi : P.info? e = some i) (hz : i.size ≠ 0) (g a b : Nat) :
    (Op.equalIn (d + 1) t (.pointer (some ⟨g, a, none⟩)) (.pointer (some ⟨g, b, none⟩))).run P u = .ok (Nat.beq a b) u := by
  have hs : (sizeOf e).run P u = .ok i.size u := by simp [sizeOf, typeInfo, hi]
  have hd : ((⟨g, a, none⟩ : Addr) == ⟨g, b, none⟩) = Nat.beq a b := by
    rw [Bool.eq_iff_iff, Nat.beq_eq]; simp
  simp only [Op.equalIn, Sem.run_bind, run_underlying h, Result.andThen_ok, hs, ne_eq, hz, not_false_eq_true, if_true, sameAddr, beq_self_eq_true, hd]
  rfl
theorem eqIn_slice_l (d : Nat) (u : World) {t e : TypeId} (h : P.underlying t = some (.slice e)) (l c : Nat) (b : Option Addr) (n m : Nat) : (Op.equalIn (d + 1) t (.slice none l c) (.slice b n m)).run P u = .ok b.isNone u := by
  simp only [Op.equalIn, Sem.run_bind, run_underlying h, Result.andThen_ok, Sem.run_pure]
theorem eqIn_slice_r (d : Nat) (u : World) {t e : TypeId} (h : P.underlying t = some (.slice e)) (a : Addr) (l c n m : Nat) : (Op.equalIn (d + 1) t (.slice (some a) l c) (.slice none n m)).run P u = .ok false u := by
  simp only [Op.equalIn, Sem.run_bind, run_underlying h, Result.andThen_ok, Sem.run_pure]
theorem eqIn_map_l (d : Nat) (u : World) {t k e : TypeId} (h : P.underlying t = some (.map k e)) (b : Option Nat) : (Op.equalIn (d + 1) t (.map none) (.map b)).run P u = .ok b.isNone u := by
  simp only [Op.equalIn, Sem.run_bind, run_underlying h, Result.andThen_ok, Sem.run_pure]
theorem eqIn_map_r (d : Nat) (u : World) {t k e : TypeId} (h : P.underlying t = some (.map k e)) (a : Nat) : (Op.equalIn (d + 1) t (.map (some a)) (.map none)).run P u = .ok false u := by
  simp only [Op.equalIn, Sem.run_bind, run_underlying h, Result.andThen_ok, Sem.run_pure]
theorem eqIn_fn_nn (d : Nat) (u : World) {t : TypeId} {a b : Array TypeId} {c : Bool} (h : P.underlying t = some (.func a b c)) : (Op.equalIn (d + 1) t .nilFunc .nilFunc).run P u = .ok true u := by
  simp only [Op.equalIn, Sem.run_bind, run_underlying h, Result.andThen_ok, Sem.run_pure]
theorem eqIn_fn_l (d : Nat) (u : World) {t : TypeId} {a b : Array TypeId} {c : Bool} (h : P.underlying t = some (.func a b c)) (f : Fn) (x y : Array Value) : (Op.equalIn (d + 1) t .nilFunc (.func f x y)).run P u = .ok false u := by
  simp only [Op.equalIn, Sem.run_bind, run_underlying h, Result.andThen_ok, Sem.run_pure]
theorem eqIn_fn_r (d : Nat) (u : World) {t : TypeId} {a b : Array TypeId} {c : Bool} (h : P.underlying t = some (.func a b c)) (f : Fn) (x y : Array Value) : (Op.equalIn (d + 1) t (.func f x y) .nilFunc).run P u = .ok false u := by
  simp only [Op.equalIn, Sem.run_bind, run_underlying h, Result.andThen_ok, Sem.run_pure]

/-- how the two comparisons go -/
def EqGoes (P : Program) (t : TypeId) (x y : Value) (r : Bool) : Prop :=
  (∀ op xo yo u, (eqGuard op t xo yo x y).run P u = .ok () u) ∧ (binOp .eql t x y = (do pure (.bool (← Op.equal t x y)))) ∧ (binOp .neq t x y = (do pure (.bool (!(← Op.equal t x y))))) ∧ ∀ u, (Op.equal t x y).run P u = .ok r u
theorem eqBl_spec {t : TypeId} {ax ay : AV} {x y : Value} {r : Bool} (hx : VR E ρ ax x) (hy : VR E ρ ay y) (hu : P.underlying t = some .bool) (h : eqBl ax ay = some r) : EqGoes P t x y r := by
  unfold eqBl at h
  split at h
  · rename_i a b
    simp only [VR] at hx hy
    subst hx; subst hy
    cases h
    exact ⟨fun _ _ _ _ => by rw [eqGuard_at_bool]; rfl, rfl, rfl, fun u => by rw [run_equal_bool u t a b hu, bEq_eq]⟩
  · cases h
theorem eqPtr_spec {t e : TypeId} {i : TypeInfo} {ax ay : AV} {x y : Value} {r : Bool} (hx : VR E ρ ax x) (hy : VR E ρ ay y) (hu : P.underlying t = some (.pointer e)) (hi : P.info? e = some i) (hz : i.size ≠ 0) (h : eqPtr ax ay = some r) : EqGoes P t x y r := by
  unfold eqPtr at h
  split at h
  · simp only [VR] at hx hy
    subst hx; subst hy
    cases h
    exact ⟨fun _ _ _ _ => by rw [eqGuard_at_pointer]; rfl, rfl, rfl, fun u => eqIn_ptr_l 9999 u hu none⟩
  · simp only [VR] at hx
    obtain ⟨g, c, h1, rfl⟩ := hy
    subst hx
    cases h
    exact ⟨fun _ _ _ _ => by rw [eqGuard_at_pointer]; rfl, rfl, rfl, fun u => eqIn_ptr_l 9999 u hu _⟩
  · simp only [VR] at hy
    obtain ⟨g, c, h1, rfl⟩ := hx
    subst hy
    cases h
    exact ⟨fun _ _ _ _ => by rw [eqGuard_at_pointer]; rfl, rfl, rfl, fun u => eqIn_ptr_r 9999 u hu _⟩
  · rename_i a i' b j'
    rw [cnd_eq] at h
    split at h
    · rename_i hb
      have hb := Nat.eq_of_beq_eq_true hb
      subst hb
      obtain ⟨g, c, h1, rfl⟩ := hx
      obtain ⟨g', c', h2, rfl⟩ := hy
      rw [h1] at h2
      cases h2
      cases h
      exact ⟨fun _ _ _ _ => by rw [eqGuard_at_pointer]; rfl, rfl, rfl, fun u => eqIn_ptr_same 9999 u hu hi hz _ _ _⟩
    · cases h
  · cases h
theorem eqSlc_spec {t e : TypeId} {ax ay : AV} {x y : Value} {r : Bool} (hx : VR E ρ ax x) (hy : VR E ρ ay y) (hu : P.underlying t = some (.slice e)) (h : eqSlc ax ay = some r) : EqGoes P t x y r := by
  unfold eqSlc at h
  split at h
  · simp only [VR] at hx hy
    subst hx; subst hy
    cases h
    exact ⟨fun _ _ _ _ => by rw [eqGuard_at_slice]; rfl, rfl, rfl, fun u => eqIn_slice_l 9999 u hu _ _ _ _ _⟩
  · simp only [VR] at hx
    obtain ⟨g, c, h1, rfl⟩ := hy
    subst hx
    cases h
    exact ⟨fun _ _ _ _ => by rw [eqGuard_at_slice]; rfl, rfl, rfl, fun u => eqIn_slice_l 9999 u hu _ _ _ _ _⟩
  · simp only [VR] at hy
    obtain ⟨g, c, h1, rfl⟩ := hx
    subst hy
    cases h
    exact ⟨fun _ _ _ _ => by rw [eqGuard_at_slice]; rfl, rfl, rfl, fun u => eqIn_slice_r 9999 u hu _ _ _ _ _⟩
  · cases h
theorem eqMp_spec {t k e : TypeId} {ax ay : AV} {x y : Value} {r : Bool} (hx : VR E ρ ax x) (hy : VR E ρ ay y) (hu : P.underlying t = some (.map k e)) (h : eqMp ax ay = some r) : EqGoes P t x y r := by
  unfold eqMp at h
  split at h
  · simp only [VR] at hx hy
    subst hx; subst hy
    cases h
    exact ⟨fun _ _ _ _ => by rw [eqGuard_at_map]; rfl, rfl, rfl, fun u => eqIn_map_l 9999 u hu _⟩
  · simp only [VR] at hx
    obtain ⟨g, c, h1, rfl⟩ := hy
    subst hx
    cases h
    exact ⟨fun _ _ _ _ => by rw [eqGuard_at_map]; rfl, rfl, rfl, fun u => eqIn_map_l 9999 u hu _⟩
  · simp only [VR] at hy
    obtain ⟨g, c, h1, rfl⟩ := hx
    subst hy
    cases h
    exact ⟨fun _ _ _ _ => by rw [eqGuard_at_map]; rfl, rfl, rfl, fun u => eqIn_map_r 9999 u hu _⟩
  · cases h
theorem eqFn_spec {t : TypeId} {p q : Array TypeId} {z : Bool} {ax ay : AV} {x y : Value} {r : Bool} (hx : VR E ρ ax x) (hy : VR E ρ ay y) (hu : P.underlying t = some (.func p q z)) (h : eqFn ax ay = some r) : EqGoes P t x y r := by
  unfold eqFn at h
  split at h
  · simp only [VR] at hx hy
    subst hx; subst hy
    cases h
    exact ⟨fun _ _ _ _ => by rw [eqGuard_at_nilFunc]; rfl, rfl, rfl, fun u => eqIn_fn_nn 9999 u hu⟩
  · simp only [VR] at hx
    obtain ⟨xs, ys, rfl, _, _⟩ := hy
    subst hx
    cases h
    exact ⟨fun _ _ _ _ => by rw [eqGuard_at_nilFunc]; rfl, rfl, rfl, fun u => eqIn_fn_l 9999 u hu _ _ _⟩
  · simp only [VR] at hy
    obtain ⟨xs, ys, rfl, _, _⟩ := hx
    subst hy
    cases h
    exact ⟨fun _ _ _ _ => by rw [eqGuard_at_func]; rfl, rfl, rfl, fun u => eqIn_fn_r 9999 u hu _ _ _⟩
  · cases h
/-! structs and arrays of single cells -/
theorem cSK_spec {t : TypeId} {s : SK} (h : cSK P t = some s) : ∃ d, P.underlying t = some d ∧ (match s with | .bl => d = .bool | .nt => ∃ k, d = .int k | .st => d = .string) := by
  unfold cSK at h
  split at h
  · cases h; exact ⟨_, by assumption, rfl⟩
  · cases h; exact ⟨_, by assumption, _, rfl⟩
  · cases h; exact ⟨_, by assumption, rfl⟩
  · cases h
theorem run_part_cell {t : TypeId} {s : SK} (h : cSK P t = some s) {xs : Array Value} {i : Nat} {x : Value} (hx : xs[i]? = some x) (u : World) : (part t xs i).run P u = .ok x u := by
  obtain ⟨d, hd, hs⟩ := cSK_spec h
  have ha : (isAgg t).run P u = .ok false u := by
    unfold isAgg
    simp only [Sem.run_bind, run_underlying hd, Result.andThen_ok]
    cases s with
    | bl => subst hs; rfl
    | nt => obtain ⟨k, rfl⟩ := hs; rfl
    | st => subst hs; rfl
  unfold part
  simp only [Sem.run_bind, ha, Result.andThen_ok, Bool.false_eq_true, if_false, hx, Sem.run_pure]
theorem eqIn_int (d : Nat) (u : World) {t : TypeId} {k : IntKind} (h : P.underlying t = some (.int k)) (j : IntKind) (a b : Int) : (Op.equalIn (d + 1) t (.int j a) (.int j b)).run P u = .ok (a == b) u := by
  simp only [Op.equalIn, Sem.run_bind, run_underlying h, Result.andThen_ok, if_true, Sem.run_pure]
theorem eqCell_spec {t : TypeId} {s : SK} (ht : cSK P t = some s) {a b : AV} {x y : Value} {r : Bool} (hx : VR E ρ a x) (hy : VR E ρ b y) (h : eqCell s a b = some r) (d : Nat) (u : World) : (Op.equalIn (d + 1) t x y).run P u = .ok r u := by
  obtain ⟨dd, hd, hs⟩ := cSK_spec ht
  unfold eqCell at h
  split at h
  · simp only [VR] at hx hy
    subst hx; subst hy
    cases h
    have hs : dd = .bool := hs
    subst hs
    simp only [Op.equalIn, Sem.run_bind, run_underlying hd, Result.andThen_ok, Sem.run_pure, bEq_eq]
  · obtain ⟨rfl, ha⟩ := hx
    obtain ⟨rfl, hb⟩ := hy
    rename_i p q
    cases h
    have hs : dd = .string := hs
    subst hs
    have e : (mkS p == mkS q) = leq p q := by
      rw [beq_toListBytes, leq_eq, Bool.eq_iff_iff]
      simp only [beq_iff_eq, decide_eq_true_eq]
      exact mkS_inj ha hb
    simp only [Op.equalIn, Sem.run_bind, run_underlying hd, Result.andThen_ok, Sem.run_pure, e]
  · simp only [VR] at hx hy
    subst hx; subst hy
    obtain ⟨k, rfl⟩ := hs
    rw [cnd_eq] at h
    split at h
    · rename_i hk
      rw [kindEq_iff] at hk
      subst hk
      cases h
      rw [eqIn_int d u hd, ibeq_eq]
    · cases h
  · cases h
theorem oif_eq_ok' {α β : Type} {c : Option α} {s : R β} {f : α → R β} {b : β} (h : oif c s f = .ok b) : (∃ a, c = some a ∧ f a = .ok b) ∨ (c = none ∧ s = .ok b) := by
  cases c with
  | some a => exact .inl ⟨a, rfl, h⟩
  | none => exact .inr ⟨rfl, h⟩
theorem eqCellF_spec (hf : FactsOK E fs) {t : TypeId} {s : SK} (ht : cSK P t = some s) {a b : AV} {x y : Value} {r : Bool} (hx : VR E ρ a x) (hy : VR E ρ b y) (h : eqCellF fs s a b = .ok r) (d : Nat) (u : World) : (Op.equalIn (d + 1) t x y).run P u = .ok r u := by
  unfold eqCellF at h
  split at h
  · rcases oif_eq_ok' h with ⟨c, h1, h2⟩ | ⟨_, h2⟩
    · cases h2; exact eqCell_spec ht hx hy h1 d u
    · unfold eqInt at h2
      obtain ⟨k, hk, h3⟩ := oif_eq_ok h2
      obtain ⟨j, hj, h4⟩ := oif_eq_ok h3
      obtain ⟨p, hp, h5⟩ := oif_eq_ok h4
      obtain ⟨q, hq, h6⟩ := oif_eq_ok h5
      obtain ⟨hkj, h7⟩ := cnd_eq_ok h6
      obtain ⟨c, hc, h8⟩ := oif_eq_ok h7
      cases h8
      rw [kindEq_iff] at hkj
      subst hkj
      rw [IE.of_spec hx hk hp, IE.of_spec hy hj hq]
      obtain ⟨dd, hd, k', rfl⟩ := cSK_spec ht
      rw [eqIn_int d u hd, ← askEq_spec hf hc]
      rfl
  · obtain ⟨c, h1, h2⟩ := oif_eq_ok h
    cases h2
    exact eqCell_spec ht hx hy h1 d u
theorem eqAg_cons (p : Nat × SK) (l : List (Nat × SK)) (xs ys : List AV) : eqAg fs (p :: l) xs ys = oif (nth? p.1 xs) (.err "eql cell") fun x => oif (nth? p.1 ys) (.err "eql cell") fun y => R.bind (eqCellF fs p.2 x y) fun b => cnd b (eqAg fs l xs ys) (.ok false) := rfl
/-- one cell, and then the others -/
theorem eqAg_step (hf : FactsOK E fs) {t : TypeId} {i : Nat} {s : SK} (ht : cSK P t = some s) {l : List (Nat × SK)} {as bs : List AV} {xs ys : Array Value} {r : Bool} (hx : VRs E ρ as xs.toList) (hy : VRs E ρ bs ys.toList) (h : eqAg fs ((i, s) :: l) as bs = .ok r) (d : Nat) (u : World) :
    ∃ a b q, (part t xs i).run P u = .ok a u ∧ (part t ys i).run P u = .ok b u ∧ (Op.equalIn (d + 1) t a b).run P u = .ok q u ∧ ((q = true ∧ eqAg fs l as bs = .ok r) ∨ (q = false ∧ r = false)) := by
  rw [eqAg_cons] at h
  obtain ⟨p, h1, h2⟩ := oif_eq_ok h
  obtain ⟨q, h3, h4⟩ := oif_eq_ok h2
  obtain ⟨c, h5, h6⟩ := bind_eq_ok h4
  rw [nth?_eq] at h1 h3
  obtain ⟨x, hx1, hx2⟩ := hx.get h1
  obtain ⟨y, hy1, hy2⟩ := hy.get h3
  rw [Array.getElem?_toList] at hx1 hy1
  refine ⟨x, y, c, run_part_cell ht hx1 u, run_part_cell ht hy1 u, eqCellF_spec hf ht hx2 hy2 h5 d u, ?_⟩
  cases c with
  | true => exact .inl ⟨rfl, h6⟩
  | false => cases h6; exact .inr ⟨rfl, rfl⟩
theorem eqFields_spec (hf : FactsOK E fs) {as bs : List AV} {xs ys : Array Value} (hx : VRs E ρ as xs.toList) (hy : VRs E ρ bs ys.toList) (d : Nat) (u : World) :
    ∀ {l : List Field} {fl : List (Nat × SK)} {r : Bool}, cFlatF P l = some fl → eqAg fs fl as bs = .ok r → (Op.eqFields (d + 1) xs ys l).run P u = .ok r u
  | [], fl, r, hc, h => by cases hc; cases h; rfl
  | f :: l, fl, r, hc, h => by
    unfold cFlatF at hc
    split at hc
    · cases hc
    · rename_i hn
      split at hc
      · rename_i s q hs hq
        cases hc
        obtain ⟨a, b, c, h1, h2, h3, h4⟩ := eqAg_step hf hs hx hy h d u
        unfold Op.eqFields
        rw [if_pos hn]
        simp only [Sem.run_bind, h1, h2, h3, Result.andThen_ok]
        rcases h4 with ⟨rfl, h4⟩ | ⟨rfl, rfl⟩
        · simpa using eqFields_spec hf hx hy d u hq h4
        · simp
      · cases hc
theorem eqItems_spec (hf : FactsOK E fs) {as bs : List AV} {xs ys : Array Value} (hx : VRs E ρ as xs.toList) (hy : VRs E ρ bs ys.toList) {e : TypeId} {s : SK} (hs : cSK P e = some s) (d : Nat) (u : World) :
    ∀ {l : List Nat} {r : Bool}, eqAg fs (l.map fun i => (i, s)) as bs = .ok r → (Op.eqItems (d + 1) e 1 xs ys l).run P u = .ok r u
  | [], r, h => by cases h; rfl
  | i :: l, r, h => by
    obtain ⟨a, b, c, h1, h2, h3, h4⟩ := eqAg_step hf hs hx hy h d u
    unfold Op.eqItems
    rw [Nat.mul_one]
    simp only [Sem.run_bind, h1, h2, h3, Result.andThen_ok]
    rcases h4 with ⟨rfl, h4⟩ | ⟨rfl, rfl⟩
    · simpa using eqItems_spec hf hx hy hs d u h4
    · simp
/-- what a flat type is -/
def FlatAt (P : Program) (t : TypeId) (l : List (Nat × SK)) : Prop :=
  P.eqGuardType P.depth t = false ∧ ((∃ fds, P.underlying t = some (.struct fds) ∧ P.stoodInHeld t = false ∧ cFlatF P fds.toList = some l) ∨
    (∃ n e s i, P.underlying t = some (.array n e) ∧ cSK P e = some s ∧ P.info? e = some i ∧ i.size = 1 ∧ l = cFlatA s n))
theorem cFlat_spec {t : TypeId} {l : List (Nat × SK)} (h : cFlat P t = some l) : FlatAt P t l := by
  unfold cFlat at h
  split at h
  · cases h
  · rename_i hg
    refine ⟨by simpa using hg, ?_⟩
    split at h
    · rename_i fds hu
      split at h
      · cases h
      · rename_i hsi
        exact .inl ⟨fds, hu, by simpa using hsi, h⟩
    · rename_i n e hu
      split at h
      · rename_i s hs hn
        cases h
        obtain ⟨i, hi, h1⟩ := mapO hn
        exact .inr ⟨n, e, s, i, hu, hs, hi, h1, rfl⟩
      · cases h
    · cases h
theorem eqAg_spec (hf : FactsOK E fs) {t : TypeId} {l : List (Nat × SK)} (hF : FlatAt P t l) {as bs : List AV} {xs ys : Array Value} {r : Bool} (hx : VRs E ρ as xs.toList) (hy : VRs E ρ bs ys.toList) (h : eqAg fs l as bs = .ok r) (d : Nat) (u : World) :
    (Op.equalIn (d + 2) t (.agg xs) (.agg ys)).run P u = .ok r u := by
  rcases hF.2 with ⟨fds, hu, hsi, hc⟩ | ⟨n, e, s, i, hu, hs, hi, h1, rfl⟩
  · have hfo : P.fieldsOf t = fds := by simp [Program.fieldsOf, hu]
    rw [run_equalIn_struct u (d + 1) t xs ys (by rw [hfo]; exact hu) hsi, hfo]
    exact eqFields_spec hf hx hy d u hc h
  · have hco : P.cellsOf e = 1 := by simp [Program.cellsOf, hi, h1]
    rw [run_equalIn_array u (d + 1) xs ys hu hi, hco]
    exact eqItems_spec hf hx hy hs d u h
theorem eqA_spec (hf : FactsOK E fs) {op : BinOp} {t : TypeId} {ax ay : AV} {x y : Value} {r : Bool} (hx : VR E ρ ax x) (hy : VR E ρ ay y) (hop : op = .eql ∨ op = .neq) (h : eqA fs (cEq P op t) ax ay = .ok r) : EqGoes P t x y r := by
  have hk : cEq P op t = match P.underlying t with
    | some .bool => .bl
    | some (.pointer e) => match P.info? e with
      | some i => if i.size = 0 then .no else .ptr
      | none => .no
    | some (.slice _) => .slc
    | some (.map _ _) => .mp
    | some (.func _ _ _) => .fn
    | some (.struct _) => cEqAg P t
    | some (.array _ _) => cEqAg P t
    | _ => .no := by rcases hop with rfl | rfl <;> rfl
  have ho : ∀ {q : Option Bool}, eqO q = .ok r → q = some r := fun {q} h => by
    obtain ⟨c, h1, h2⟩ := oif_eq_ok h
    cases h2
    exact h1
  have ag : eqA fs (cEqAg P t) ax ay = .ok r → EqGoes P t x y r := fun h => by
    unfold cEqAg at h
    split at h
    · rename_i l hl
      have hF := cFlat_spec hl
      unfold eqA at h
      simp only at h
      split at h
      · obtain ⟨xs, rfl, hxs⟩ := hx
        obtain ⟨ys, rfl, hys⟩ := hy
        exact ⟨fun op' xo yo u => run_eqGuard_agg u op' t xo yo xs ys hF.1, rfl, rfl, fun u => eqAg_spec hf hF hxs hys h 9998 u⟩
      · cases h
    · cases ho h
  rw [hk] at h
  split at h
  · exact eqBl_spec hx hy (by assumption) (ho h)
  · split at h
    · split at h
      · cases ho h
      · exact eqPtr_spec hx hy (by assumption) (by assumption) (by assumption) (ho h)
    · cases ho h
  · exact eqSlc_spec hx hy (by assumption) (ho h)
  · exact eqMp_spec hx hy (by assumption) (ho h)
  · exact eqFn_spec hx hy (by assumption) (ho h)
  · exact ag h
  · exact ag h
  · cases ho h

theorem binEq_spec (hf : FactsOK E fs) {op : BinOp} {t : TypeId} {ax ay : AV} {x y : Value} (hx : VR E ρ ax x) (hy : VR E ρ ay y) (h : binEq fs op (cEq P op t) S ax ay = .ok (v, S')) :
    S' = S ∧ ∃ z, VR E ρ v z ∧ ∀ xo yo u, (do eqGuard op t xo yo x y; binOp op t x y).run P u = .ok z u := by
  cases op <;> simp only [binEq] at h <;> (try exact (err_ok h).elim)
  · obtain ⟨r, hr, h⟩ := bind_eq_ok h
    obtain ⟨rfl, rfl⟩ := okB_ok h
    obtain ⟨h1, h2, _, h3⟩ := eqA_spec hf hx hy (.inl rfl) hr
    refine ⟨rfl, .bool r, rfl, fun xo yo u => ?_⟩
    simp [h1, h2, h3]
  · obtain ⟨r, hr, h⟩ := bind_eq_ok h
    obtain ⟨rfl, rfl⟩ := okB_ok h
    obtain ⟨h1, _, h2, h3⟩ := eqA_spec hf hx hy (.inr rfl) hr
    refine ⟨rfl, .bool !r, rfl, fun xo yo u => ?_⟩
    simp [h1, h2, h3]
theorem binA_spec (hf : FactsOK E fs) {op : BinOp} {t : TypeId} {ax ay : AV} {x y : Value} (hx : VR E ρ ax x) (hy : VR E ρ ay y) (h : binA ax fs op (cEq P op t) S ay = .ok (v, S')) :
    S' = S ∧ ∃ z, VR E ρ v z ∧ ∀ xo yo u, (do eqGuard op t xo yo x y; binOp op t x y).run P u = .ok z u := by
  unfold binA at h
  split at h
  · rename_i k a
    simp only [binI] at h
    split at h
    · rename_i j b
      simp only [VR] at hx hy
      subst hx; subst hy
      obtain ⟨h1, z, h2, h3⟩ := binII_spec (P := P) h
      exact ⟨h1, z, h2 E ρ, fun xo yo u => h3 t xo yo u⟩
    · obtain ⟨h1, z, h2, h3⟩ := binYS_spec (P := P) hf hx hy h
      exact ⟨h1, z, h2, fun xo yo u => h3 t xo yo u⟩
  · obtain ⟨h1, z, h2, h3⟩ := binYS_spec (P := P) hf hx hy h
    exact ⟨h1, z, h2, fun xo yo u => h3 t xo yo u⟩
  · rename_i a
    simp only [binT] at h
    split at h
    · rename_i b
      obtain ⟨rfl, ha⟩ := hx
      obtain ⟨rfl, hb⟩ := hy
      obtain ⟨h1, z, h2, h3⟩ := binSS_spec (P := P) ha hb h
      exact ⟨h1, z, h2 E ρ, fun xo yo u => h3 t xo yo u⟩
    · exact (err_ok h).elim
  · exact binEq_spec hf hx hy h

theorem info_und {t : TypeId} {d : TypeDesc} (h : P.underlying t = some d) : ∃ i, P.info? t = some i := by
  unfold Program.underlying at h
  split at h
  · exact ⟨_, by assumption⟩
  · exact ⟨_, by assumption⟩
  · cases h
theorem run_size {t : TypeId} {n : Nat} (h : cSize P t = some n) (u : World) : (sizeOf t).run P u = .ok n u := by
  obtain ⟨i, hi, rfl⟩ := mapO h
  simp [sizeOf, typeInfo, hi]
theorem run_agg {t : TypeId} {a : Bool} (h : cAgg P t = some a) (u : World) : (isAgg t).run P u = .ok a u := by
  obtain ⟨d, hd, rfl⟩ := mapO h
  unfold isAgg
  simp only [Sem.run_bind, run_underlying hd, Result.andThen_ok]
  cases d <;> rfl
theorem add_off (g o n : Nat) : (⟨g, o, none⟩ : Addr).add n = ⟨g, o + n, none⟩ := by unfold Addr.add; split <;> simp_all

theorem unA_spec (hf : FactsOK E fs) {op : UnOp} {ax : AV} {x : Value} (hx : VR E ρ ax x) (h : unA fs op S ax = .ok (v, S')) : S' = S ∧ ∃ z, VR E ρ v z ∧ ∀ u, (Op.unary op x).run P u = .ok z u := by
  unfold unA at h
  split at h
  · obtain ⟨rfl, rfl⟩ := okI_ok h
    simp only [VR] at hx
    subst hx
    exact ⟨rfl, _, rfl, fun u => by simp only [Op.unary, Op.intArith, Sem.run_pure, wrapA_eq]; rfl⟩
  · obtain ⟨rfl, rfl, hw⟩ := symI_ok hf h
    simp only [VR] at hx
    subst hx
    refine ⟨rfl, _, rfl, fun u => ?_⟩
    simp only [IE.val] at hw ⊢
    simp only [Op.unary, Op.intArith, Sem.run_pure, hw]
  · obtain ⟨rfl, rfl⟩ := okI_ok h
    simp only [VR] at hx
    subst hx
    exact ⟨rfl, _, rfl, fun u => by simp only [Op.unary, Op.intBits, Sem.run_pure]⟩
  · obtain ⟨rfl, rfl⟩ := okB_ok h
    simp only [VR] at hx
    subst hx
    exact ⟨rfl, _, rfl, fun u => rfl⟩
  · exact (err_ok h).elim
theorem extract_VRs {cs l : List AV} {xs : Array Value} {off n : Nat} (h : VRs E ρ cs xs.toList) (hl : sub? cs off n = some l) : VRs E ρ l (xs.extract off (off + n)).toList := by
  obtain ⟨rfl, h2⟩ := sub?_spec hl
  rw [Array.toList_extract]
  simp only [List.extract, Nat.add_sub_cancel_left]
  exact (h.drop off).take n
end
end Go.Proofs.YtdimeaooekhkhaaGreat.AX
