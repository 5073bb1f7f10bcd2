/- Proved: the runner's operations that hang on their operands alone do what the model's do. No function of the program is walked here. -/
import Derived.Test.YtdimeaooekhkhaaGreatAxOps1
import Derived.Laws.Cover1
set_option linter.unusedVariables false
set_option linter.unusedSimpArgs false
namespace Go.Proofs.YtdimeaooekhkhaaGreat.AX
open Go.RowKit

/-- the runner's operand tells the operand's value -/
def Hop (E : Env) (ρ : Ren) (f : Operand → Value) (tm : Tm) (x : Operand) : Prop := ∀ xa, XA.of x = some xa → VR E ρ (ev xa tm) (f x)
/-- the operation yields, in whatever world -/
def Yl (P : Program) (f : Operand → Value) (o : Oper) (E : Env) (ρ : Ren) (v : AV) : Prop := ∃ x, VR E ρ v x ∧ ∀ u, (execOp f o).run P u = .ok (.value x) u

theorem mapO {α β : Type} {o : Option α} {f : α → β} {b : β} (h : o.map f = some b) : ∃ a, o = some a ∧ f a = b := by
  cases o with
  | none => cases h
  | some a => cases h; exact ⟨a, rfl, rfl⟩
theorem evs_eq {β : Type} (tm : Tm) : ∀ (l : List XA) (f : List AV → β), evs tm l f = f (l.map (ev · tm))
  | [], f => rfl
  | x :: l, f => by
    show seqV (ev x tm) (fun v => evs tm l fun r => f (v :: r)) = _
    rw [seqV_eq, evs_eq tm l]
    rfl
theorem ofs_VRs {E : Env} {ρ : Ren} {f : Operand → Value} {tm : Tm} : ∀ {l : List Operand} {xl : List XA}, XA.ofs l = some xl → (∀ x ∈ l, Hop E ρ f tm x) → VRs E ρ (xl.map (ev · tm)) (l.map f)
  | [], xl, h, _ => by cases h; trivial
  | x :: l, xl, h, hH => by
    unfold XA.ofs at h
    split at h
    · rename_i a r ha hr
      cases h
      exact ⟨hH x (by simp) a ha, ofs_VRs hr (fun y hy => hH y (by simp [hy]))⟩
    · cases h

section
variable {P : Program} {E : Env} {B : Nat} {ρ : Ren} {S S' : St} {w : World} {f : Operand → Value} {tm : Tm} {fs : List Fact} {call : CallT} {v : AV} {o : Oper}

theorem eqIn_ptr_l (d : Nat) (u : World) {t e : TypeId} (h : P.underlying t = some (.pointer e)) (b : Option Addr) : (Op.equalIn (d + 1) t (.pointer none) (.pointer b)).run P u = .ok b.isNone u := by
  simp only [Op.equalIn, Sem.run_bind, run_underlying h, Result.andThen_ok, Sem.run_pure]
theorem eqIn_ptr_r (d : Nat) (u : World) {t e : TypeId} (h : P.underlying t = some (.pointer e)) (a : Addr) : (Op.equalIn (d + 1) t (.pointer (some a)) (.pointer none)).run P u = .ok false u := by
  simp only [Op.equalIn, Sem.run_bind, run_underlying h, Result.andThen_ok, Sem.run_pure]
theorem eqIn_ptr_same (d : Nat) (u : World) {t e : TypeId} {i : TypeInfo} (h : P.underlying t = some (.pointer e)) (hi : P.info? e = some i) (hz : i.size ≠ 0) (g a b : Nat) :
    (Op.equalIn (d + 1) t (.pointer (some ⟨g, a, none⟩)) (.pointer (some ⟨g, b, none⟩))).run P u = .ok (Nat.beq a b) u := by
  have hs : (sizeOf e).run P u = .ok i.size u := by simp [sizeOf, typeInfo, hi]
  have hd : ((⟨g, a, none⟩ : Addr) == ⟨g, b, none⟩) = Nat.beq a b := by
    rw [Bool.eq_iff_iff, Nat.beq_eq]; simp
  simp only [Op.equalIn, Sem.run_bind, run_underlying h, Result.andThen_ok, hs, ne_eq, hz, not_false_eq_true, if_true, sameAddr, beq_self_eq_true, hd]
  rfl
theorem eqIn_slice_l (d : Nat) (u : World) {t e : TypeId} (h : P.underlying t = some (.slice e)) (l c : Nat) (b : Option Addr) (n m : Nat) : (Op.equalIn (d + 1) t (.slice none l c) (.slice b n m)).run P u = .ok b.isNone u := by
  simp only [Op.equalIn, Sem.run_bind, run_underlying h, Result.andThen_ok, Sem.run_pure]
theorem eqIn_slice_r (d : Nat) (u : World) {t e : TypeId} (h : P.underlying t = some (.slice e)) (a : Addr) (l c n m : Nat) : (Op.equalIn (d + 1) t (.slice (some a) l c) (.slice none n m)).run P u = .ok false u := by
  simp only [Op.equalIn, Sem.run_bind, run_underlying h, Result.andThen_ok, Sem.run_pure]
theorem eqIn_map_l (d : Nat) (u : World) {t k e : TypeId} (h : P.underlying t = some (.map k e)) (b : Option Nat) : (Op.equalIn (d + 1) t (.map none) (.map b)).run P u = .ok b.isNone u := by
  simp only [Op.equalIn, Sem.run_bind, run_underlying h, Result.andThen_ok, Sem.run_pure]
theorem eqIn_map_r (d : Nat) (u : World) {t k e : TypeId} (h : P.underlying t = some (.map k e)) (a : Nat) : (Op.equalIn (d + 1) t (.map (some a)) (.map none)).run P u = .ok false u := by
  simp only [Op.equalIn, Sem.run_bind, run_underlying h, Result.andThen_ok, Sem.run_pure]
theorem eqIn_fn_nn (d : Nat) (u : World) {t : TypeId} {a b : Array TypeId} {c : Bool} (h : P.underlying t = some (.func a b c)) : (Op.equalIn (d + 1) t .nilFunc .nilFunc).run P u = .ok true u := by
  simp only [Op.equalIn, Sem.run_bind, run_underlying h, Result.andThen_ok, Sem.run_pure]
theorem eqIn_fn_l (d : Nat) (u : World) {t : TypeId} {a b : Array TypeId} {c : Bool} (h : P.underlying t = some (.func a b c)) (f : Fn) (x y : Array Value) : (Op.equalIn (d + 1) t .nilFunc (.func f x y)).run P u = .ok false u := by
  simp only [Op.equalIn, Sem.run_bind, run_underlying h, Result.andThen_ok, Sem.run_pure]
theorem eqIn_fn_r (d : Nat) (u : World) {t : TypeId} {a b : Array TypeId} {c : Bool} (h : P.underlying t = some (.func a b c)) (f : Fn) (x y : Array Value) : (Op.equalIn (d + 1) t (.func f x y) .nilFunc).run P u = .ok false u := by
  simp only [Op.equalIn, Sem.run_bind, run_underlying h, Result.andThen_ok, Sem.run_pure]

/-- how the two comparisons go -/
def EqGoes (P : Program) (t : TypeId) (x y : Value) (r : Bool) : Prop :=
  (∀ op xo yo, eqGuard op t xo yo x y = pure ()) ∧ (binOp .eql t x y = (do pure (.bool (← Op.equal t x y)))) ∧ (binOp .neq t x y = (do pure (.bool (!(← Op.equal t x y))))) ∧ ∀ u, (Op.equal t x y).run P u = .ok r u
theorem eqBl_spec {t : TypeId} {ax ay : AV} {x y : Value} {r : Bool} (hx : VR E ρ ax x) (hy : VR E ρ ay y) (hu : P.underlying t = some .bool) (h : eqBl ax ay = some r) : EqGoes P t x y r := by
  unfold eqBl at h
  split at h
  · rename_i a b
    simp only [VR] at hx hy
    subst hx; subst hy
    cases h
    exact ⟨fun _ _ _ => eqGuard_at_bool .., rfl, rfl, fun u => by rw [run_equal_bool u t a b hu, bEq_eq]⟩
  · cases h
theorem eqPtr_spec {t e : TypeId} {i : TypeInfo} {ax ay : AV} {x y : Value} {r : Bool} (hx : VR E ρ ax x) (hy : VR E ρ ay y) (hu : P.underlying t = some (.pointer e)) (hi : P.info? e = some i) (hz : i.size ≠ 0) (h : eqPtr ax ay = some r) : EqGoes P t x y r := by
  unfold eqPtr at h
  split at h
  · simp only [VR] at hx hy
    subst hx; subst hy
    cases h
    exact ⟨fun _ _ _ => eqGuard_at_pointer .., rfl, rfl, fun u => eqIn_ptr_l 9999 u hu none⟩
  · simp only [VR] at hx
    obtain ⟨g, c, h1, rfl⟩ := hy
    subst hx
    cases h
    exact ⟨fun _ _ _ => eqGuard_at_pointer .., rfl, rfl, fun u => eqIn_ptr_l 9999 u hu _⟩
  · simp only [VR] at hy
    obtain ⟨g, c, h1, rfl⟩ := hx
    subst hy
    cases h
    exact ⟨fun _ _ _ => eqGuard_at_pointer .., rfl, rfl, fun u => eqIn_ptr_r 9999 u hu _⟩
  · rename_i a i' b j'
    rw [cnd_eq] at h
    split at h
    · rename_i hb
      have hb := Nat.eq_of_beq_eq_true hb
      subst hb
      obtain ⟨g, c, h1, rfl⟩ := hx
      obtain ⟨g', c', h2, rfl⟩ := hy
      rw [h1] at h2
      cases h2
      cases h
      exact ⟨fun _ _ _ => eqGuard_at_pointer .., rfl, rfl, fun u => eqIn_ptr_same 9999 u hu hi hz _ _ _⟩
    · cases h
  · cases h
theorem eqSlc_spec {t e : TypeId} {ax ay : AV} {x y : Value} {r : Bool} (hx : VR E ρ ax x) (hy : VR E ρ ay y) (hu : P.underlying t = some (.slice e)) (h : eqSlc ax ay = some r) : EqGoes P t x y r := by
  unfold eqSlc at h
  split at h
  · simp only [VR] at hx hy
    subst hx; subst hy
    cases h
    exact ⟨fun _ _ _ => eqGuard_at_slice .., rfl, rfl, fun u => eqIn_slice_l 9999 u hu _ _ _ _ _⟩
  · simp only [VR] at hx
    obtain ⟨g, c, h1, rfl⟩ := hy
    subst hx
    cases h
    exact ⟨fun _ _ _ => eqGuard_at_slice .., rfl, rfl, fun u => eqIn_slice_l 9999 u hu _ _ _ _ _⟩
  · simp only [VR] at hy
    obtain ⟨g, c, h1, rfl⟩ := hx
    subst hy
    cases h
    exact ⟨fun _ _ _ => eqGuard_at_slice .., rfl, rfl, fun u => eqIn_slice_r 9999 u hu _ _ _ _ _⟩
  · cases h
theorem eqMp_spec {t k e : TypeId} {ax ay : AV} {x y : Value} {r : Bool} (hx : VR E ρ ax x) (hy : VR E ρ ay y) (hu : P.underlying t = some (.map k e)) (h : eqMp ax ay = some r) : EqGoes P t x y r := by
  unfold eqMp at h
  split at h
  · simp only [VR] at hx hy
    subst hx; subst hy
    cases h
    exact ⟨fun _ _ _ => eqGuard_at_map .., rfl, rfl, fun u => eqIn_map_l 9999 u hu _⟩
  · simp only [VR] at hx
    obtain ⟨g, c, h1, rfl⟩ := hy
    subst hx
    cases h
    exact ⟨fun _ _ _ => eqGuard_at_map .., rfl, rfl, fun u => eqIn_map_l 9999 u hu _⟩
  · simp only [VR] at hy
    obtain ⟨g, c, h1, rfl⟩ := hx
    subst hy
    cases h
    exact ⟨fun _ _ _ => eqGuard_at_map .., rfl, rfl, fun u => eqIn_map_r 9999 u hu _⟩
  · cases h
theorem eqFn_spec {t : TypeId} {p q : Array TypeId} {z : Bool} {ax ay : AV} {x y : Value} {r : Bool} (hx : VR E ρ ax x) (hy : VR E ρ ay y) (hu : P.underlying t = some (.func p q z)) (h : eqFn ax ay = some r) : EqGoes P t x y r := by
  unfold eqFn at h
  split at h
  · simp only [VR] at hx hy
    subst hx; subst hy
    cases h
    exact ⟨fun _ _ _ => eqGuard_at_nilFunc .., rfl, rfl, fun u => eqIn_fn_nn 9999 u hu⟩
  · simp only [VR] at hx
    obtain ⟨xs, ys, rfl, _, _⟩ := hy
    subst hx
    cases h
    exact ⟨fun _ _ _ => eqGuard_at_nilFunc .., rfl, rfl, fun u => eqIn_fn_l 9999 u hu _ _ _⟩
  · simp only [VR] at hy
    obtain ⟨xs, ys, rfl, _, _⟩ := hx
    subst hy
    cases h
    exact ⟨fun _ _ _ => eqGuard_at_func .., rfl, rfl, fun u => eqIn_fn_r 9999 u hu _ _ _⟩
  · cases h
theorem eqA_spec {op : BinOp} {t : TypeId} {ax ay : AV} {x y : Value} {r : Bool} (hx : VR E ρ ax x) (hy : VR E ρ ay y) (hop : op = .eql ∨ op = .neq) (h : eqA (cEq P op t) ax ay = some r) : EqGoes P t x y r := by
  have hk : cEq P op t = match P.underlying t with
    | some .bool => .bl
    | some (.pointer e) => match P.info? e with
      | some i => if i.size = 0 then .no else .ptr
      | none => .no
    | some (.slice _) => .slc
    | some (.map _ _) => .mp
    | some (.func _ _ _) => .fn
    | _ => .no := by rcases hop with rfl | rfl <;> rfl
  rw [hk] at h
  split at h
  · exact eqBl_spec hx hy (by assumption) h
  · split at h
    · split at h
      · cases h
      · exact eqPtr_spec hx hy (by assumption) (by assumption) (by assumption) h
    · cases h
  · exact eqSlc_spec hx hy (by assumption) h
  · exact eqMp_spec hx hy (by assumption) h
  · exact eqFn_spec hx hy (by assumption) h
  · cases h

theorem binEq_spec {op : BinOp} {t : TypeId} {ax ay : AV} {x y : Value} (hx : VR E ρ ax x) (hy : VR E ρ ay y) (h : binEq op (cEq P op t) S ax ay = .ok (v, S')) :
    S' = S ∧ ∃ z, VR E ρ v z ∧ ∀ xo yo u, (do eqGuard op t xo yo x y; binOp op t x y).run P u = .ok z u := by
  cases op <;> simp only [binEq] at h <;> (try exact (err_ok h).elim)
  · obtain ⟨r, hr, h⟩ := oif_eq_ok h
    obtain ⟨rfl, rfl⟩ := okB_ok h
    obtain ⟨h1, h2, _, h3⟩ := eqA_spec hx hy (.inl rfl) hr
    refine ⟨rfl, .bool r, rfl, fun xo yo u => ?_⟩
    rw [h1, h2]
    simp [h3]
  · obtain ⟨r, hr, h⟩ := oif_eq_ok h
    obtain ⟨rfl, rfl⟩ := okB_ok h
    obtain ⟨h1, _, h2, h3⟩ := eqA_spec hx hy (.inr rfl) hr
    refine ⟨rfl, .bool !r, rfl, fun xo yo u => ?_⟩
    rw [h1, h2]
    simp [h3]
theorem binA_spec (hf : FactsOK E fs) {op : BinOp} {t : TypeId} {ax ay : AV} {x y : Value} (hx : VR E ρ ax x) (hy : VR E ρ ay y) (h : binA ax fs op (cEq P op t) S ay = .ok (v, S')) :
    S' = S ∧ ∃ z, VR E ρ v z ∧ ∀ xo yo u, (do eqGuard op t xo yo x y; binOp op t x y).run P u = .ok z u := by
  unfold binA at h
  split at h
  · rename_i k a
    simp only [binI] at h
    split at h
    · rename_i j b
      simp only [VR] at hx hy
      subst hx; subst hy
      obtain ⟨h1, z, h2, h3⟩ := binII_spec (P := P) h
      exact ⟨h1, z, h2 E ρ, fun xo yo u => h3 t xo yo u⟩
    · obtain ⟨h1, z, h2, h3⟩ := binYS_spec (P := P) hf hx hy h
      exact ⟨h1, z, h2, fun xo yo u => h3 t xo yo u⟩
  · obtain ⟨h1, z, h2, h3⟩ := binYS_spec (P := P) hf hx hy h
    exact ⟨h1, z, h2, fun xo yo u => h3 t xo yo u⟩
  · rename_i a
    simp only [binT] at h
    split at h
    · rename_i b
      obtain ⟨rfl, ha⟩ := hx
      obtain ⟨rfl, hb⟩ := hy
      obtain ⟨h1, z, h2, h3⟩ := binSS_spec (P := P) ha hb h
      exact ⟨h1, z, h2 E ρ, fun xo yo u => h3 t xo yo u⟩
    · exact (err_ok h).elim
  · exact binEq_spec hx hy h

theorem info_und {t : TypeId} {d : TypeDesc} (h : P.underlying t = some d) : ∃ i, P.info? t = some i := by
  unfold Program.underlying at h
  split at h
  · exact ⟨_, by assumption⟩
  · exact ⟨_, by assumption⟩
  · cases h
theorem run_size {t : TypeId} {n : Nat} (h : cSize P t = some n) (u : World) : (sizeOf t).run P u = .ok n u := by
  obtain ⟨i, hi, rfl⟩ := mapO h
  simp [sizeOf, typeInfo, hi]
theorem run_agg {t : TypeId} {a : Bool} (h : cAgg P t = some a) (u : World) : (isAgg t).run P u = .ok a u := by
  obtain ⟨d, hd, rfl⟩ := mapO h
  unfold isAgg
  simp only [Sem.run_bind, run_underlying hd, Result.andThen_ok]
  cases d <;> rfl
theorem add_off (g o n : Nat) : (⟨g, o, none⟩ : Addr).add n = ⟨g, o + n, none⟩ := by unfold Addr.add; split <;> simp_all

theorem unA_spec (hf : FactsOK E fs) {op : UnOp} {ax : AV} {x : Value} (hx : VR E ρ ax x) (h : unA fs op S ax = .ok (v, S')) : S' = S ∧ ∃ z, VR E ρ v z ∧ ∀ u, (Op.unary op x).run P u = .ok z u := by
  unfold unA at h
  split at h
  · obtain ⟨rfl, rfl⟩ := okI_ok h
    simp only [VR] at hx
    subst hx
    exact ⟨rfl, _, rfl, fun u => by simp only [Op.unary, Op.intArith, Sem.run_pure, wrapA_eq]; rfl⟩
  · obtain ⟨rfl, rfl, hw⟩ := symI_ok hf h
    simp only [VR] at hx
    subst hx
    refine ⟨rfl, _, rfl, fun u => ?_⟩
    simp only [IE.val] at hw ⊢
    simp only [Op.unary, Op.intArith, Sem.run_pure, hw]
  · obtain ⟨rfl, rfl⟩ := okI_ok h
    simp only [VR] at hx
    subst hx
    exact ⟨rfl, _, rfl, fun u => by simp only [Op.unary, Op.intBits, Sem.run_pure]⟩
  · obtain ⟨rfl, rfl⟩ := okB_ok h
    simp only [VR] at hx
    subst hx
    exact ⟨rfl, _, rfl, fun u => rfl⟩
  · exact (err_ok h).elim
theorem extract_VRs {cs l : List AV} {xs : Array Value} {off n : Nat} (h : VRs E ρ cs xs.toList) (hl : sub? cs off n = some l) : VRs E ρ l (xs.extract off (off + n)).toList := by
  obtain ⟨rfl, h2⟩ := sub?_spec hl
  rw [Array.toList_extract]
  simp only [List.extract, Nat.add_sub_cancel_left]
  exact (h.drop off).take n
end
end Go.Proofs.YtdimeaooekhkhaaGreat.AX
