/- Proved: what depends on its operands alone yields the same in whatever memory. No function of the program is walked here. -/
import Derived.Test.YtdimeaooekhkhaaGreatAxOp
set_option linter.unusedVariables false
set_option linter.unusedSimpArgs false
namespace Go.Proofs.YtdimeaooekhkhaaGreat.AX
open Go.RowKit

def Par (g : St → Out) : Prop := ∀ S v S', g S = .ok (v, S') → S' = S ∧ ∀ S2, g S2 = .ok (v, S2)
theorem par_rok (v : AV) : Par fun S => rok v S := fun S u S' h => by cases h; exact ⟨rfl, fun _ => rfl⟩
theorem par_ok (v : AV) : Par fun S => R.ok (v, S) := fun S u S' h => by cases h; exact ⟨rfl, fun _ => rfl⟩
theorem par_err (s : String) : Par fun _ => err s := fun S u S' h => by cases h
theorem par_okB (b : Bool) : Par fun S => okB S b := by simp only [okB, seqB_eq]; exact par_ok _
theorem par_okI (k : IntKind) (n : Int) : Par fun S => okI S k n := by simp only [okI, seqI_eq]; exact par_ok _
theorem par_okN (n : Nat) : Par fun S => okN S n := by simp only [okN, seqN_eq]; exact par_ok _
theorem par_oif {α : Type} (c : Option α) (s : String) (f : α → St → Out) (h : ∀ a, Par (f a)) : Par fun S => oif c (err s) fun a => f a S := by
  cases c with
  | none => exact par_err s
  | some a => exact h a
theorem par_cnd (c : Bool) (a b : St → Out) (ha : Par a) (hb : Par b) : Par fun S => cnd c (a S) (b S) := by
  cases c with
  | true => exact ha
  | false => exact hb
theorem par_okCells (x : Option (List AV)) : Par fun S => okCells S x := par_oif _ _ _ fun a => by simp only [seqL_eq]; exact par_ok _
theorem par_okCell (x : Option AV) : Par fun S => okCell S x := par_oif _ _ _ fun a => par_ok _
theorem par_symI (fs : List Fact) (k : IntKind) (e : IE) : Par fun S => symI fs S k e := par_cnd _ _ _ (par_rok _) (par_err _)
theorem par_symB (n : Bool) (s : String) (r : Option Bool) : Par fun S => symB S n s r := par_oif _ _ _ fun b => par_okB _
theorem par_okPtr (b o : Nat) : Par fun S => okPtr S b o := by simp only [okPtr, seqN_eq]; exact par_rok _
theorem par_arOp (op : BinOp) (k : IntKind) (a b : Int) : Par fun S => arOp op S k a b := by
  cases op
  case quo => exact par_cnd _ _ _ (par_err _) (par_okI _ _)
  case rem => exact par_cnd _ _ _ (par_err _) (par_okI _ _)
  case shl => exact par_err _
  case shr => exact par_err _
  all_goals first | exact par_okI _ _ | exact par_okB _
theorem par_shA (op : BinOp) (k : IntKind) (a b : Int) : Par fun S => shA op S k a b := by
  cases op
  case shl => exact par_cnd _ _ _ (par_err _) (par_okI _ _)
  case shr => exact par_cnd _ _ _ (par_err _) (par_okI _ _)
  all_goals exact par_cnd _ _ _ (par_err _) (par_err _)
theorem par_binII (op : BinOp) (k : IntKind) (a : Int) (j : IntKind) (b : Int) : Par fun S => binII op S k a j b := by
  cases op
  case shl => exact par_shA .shl k a b
  case shr => exact par_shA .shr k a b
  all_goals exact par_cnd _ _ _ (par_arOp _ _ _ _) (par_err _)
theorem par_binSS (op : BinOp) (a b : List Nat) : Par fun S => binSS op S a b := by
  cases op
  case add => exact par_cnd _ _ _ (by simp only [seqL_eq]; exact par_rok _) (par_err _)
  all_goals first | exact par_okB _ | exact par_err _
theorem par_symQ (fs : List Fact) (k : IntKind) (a b : IE) : Par fun S => symQ fs S k a b := par_cnd _ _ _ (par_symI _ _ _) (par_err _)
theorem par_symR (fs : List Fact) (k : IntKind) (a b : IE) : Par fun S => symR fs S k a b := by
  unfold symR
  split
  · exact par_okI _ _
  · exact par_cnd _ _ _ (par_symI _ _ _) (par_err _)
theorem par_bind {α : Type} (x : R α) (f : α → St → Out) (h : ∀ a, Par (f a)) : Par fun S => R.bind x fun a => f a S := by
  cases x with
  | ok a => exact h a
  | err s => intro S v S' h; cases h
theorem par_binYY (fs : List Fact) (op : BinOp) (k : IntKind) (a b : IE) : Par fun S => binYY fs op S k a b := by
  cases op
  all_goals first | exact par_symI _ _ _ | exact par_symB _ _ _ | exact par_symQ _ _ _ _ | exact par_symR _ _ _ _ | exact par_err _
theorem par_binYS (fs : List Fact) (op : BinOp) (x y : AV) : Par fun S => binYS fs op S x y :=
  par_oif _ _ _ fun k => par_oif _ _ _ fun j => par_oif _ _ _ fun a => par_oif _ _ _ fun b => par_cnd _ _ _ (par_binYY _ _ _ _ _) (par_err _)
theorem par_binEq (fs : List Fact) (op : BinOp) (ek : EK) (x y : AV) : Par fun S => binEq fs op ek S x y := by
  cases op
  case eql => exact par_bind _ _ fun b => par_okB _
  case neq => exact par_bind _ _ fun b => par_okB _
  all_goals exact par_err _
theorem par_binA (x : AV) (fs : List Fact) (op : BinOp) (ek : EK) (y : AV) : Par fun S => binA x fs op ek S y := by
  cases x
  case int k a =>
    cases hy : y
    case int j b => exact par_binII op k a j b
    all_goals (simp only [binA, binI]; exact par_binYS _ _ _ _)
  case sym k a => simp only [binA, binY]; exact par_binYS _ _ _ _
  case str a =>
    cases hy : y
    case str b => exact par_binSS op a b
    all_goals exact par_err _
  all_goals (simp only [binA, binO]; exact par_binEq _ _ _ _ _)
theorem par_unA (fs : List Fact) (op : UnOp) (x : AV) : Par fun S => unA fs op S x := by
  cases op <;> cases x <;> first | exact par_okI _ _ | exact par_symI _ _ _ | exact par_okB _ | exact par_err _
theorem par_maxY (fs : List Fact) (mx : Bool) (x y : AV) : Par fun S => maxY fs mx S x y :=
  par_oif _ _ _ fun k => par_oif _ _ _ fun j => par_oif _ _ _ fun a => par_oif _ _ _ fun b => par_cnd _ _ _
    (par_cnd _ _ _ (par_oif _ _ _ fun r => par_cnd _ _ _ (par_rok _) (par_rok _)) (par_oif _ _ _ fun r => par_cnd _ _ _ (par_rok _) (par_rok _))) (par_err _)
theorem par_max2 (fs : List Fact) (mx : Bool) (x y : AV) : Par fun S => max2 fs mx S x y := by
  unfold max2
  split
  · exact par_cnd _ _ _ (par_rok _) (par_rok _)
  · exact par_maxY _ _ _ _
theorem par_mxm (fs : List Fact) (mx : Bool) : ∀ (l : List AV) (v : AV), Par fun S => mxmA fs mx S l v
  | [], v => par_rok v
  | y :: l, v => by
    intro S u S' h
    have h : R.bind (max2 fs mx S v y) (fun p => mxmA fs mx S l p.1) = .ok (u, S') := h
    obtain ⟨p, h1, h2⟩ := bind_eq_ok h
    obtain ⟨q, T⟩ := p
    obtain ⟨rfl, h3⟩ := par_max2 fs mx v y S q T h1
    obtain ⟨h4, h5⟩ := par_mxm fs mx l q _ u S' h2
    refine ⟨h4, fun S2 => ?_⟩
    show R.bind (max2 fs mx S2 v y) (fun p => mxmA fs mx S2 l p.1) = _
    have := h3 S2
    simp only at this
    rw [this]
    exact h5 S2
theorem par_slcX0 (size b off c l h m : Nat) : Par fun S => slcX size S b off c l h m := by
  unfold slcX
  simp only [mkSl, seqN_eq]
  exact par_cnd _ _ _ (par_cnd _ _ _ (par_cnd _ _ _ (par_cnd _ _ _ (par_rok _) (par_rok _)) (par_err _)) (par_err _)) (par_err _)
theorem pure_par {xo : XOp} (h : xo.pure = true) (fs : List Fact) (call : CallT) (tm : Tm) : Par fun S => xo.run fs call tm S := by
  cases xo <;> (try (cases h; done)) <;> simp only [XOp.run, o1, o2, o3, oMv, oPick, oBuild, oBin, oUn, oCvi, oMkf, oMxm, oMki, evs_eq, seqV_eq]
  case mv => exact par_rok _
  case pick c a b =>
    unfold pickA
    generalize ev c tm = v
    cases v <;> first | exact par_cnd _ _ _ (par_rok _) (par_rok _) | exact par_err _
  case build => exact par_okCells _
  case nck x =>
    unfold nckA
    generalize ev x tm = v
    cases v
    case fn f a b => cases f <;> first | exact par_rok _ | exact par_err _
    all_goals first | exact par_rok _ | exact par_err _
  case bin => exact par_binA _ _ _ _ _
  case un => exact par_unA _ _ _
  case cvi k x =>
    unfold cviA
    generalize ev x tm = v
    cases v <;> first | exact par_okI _ _ | exact par_symI _ _ _ | exact par_err _
  case css x =>
    unfold cssA
    generalize ev x tm = v
    cases v <;> first | exact par_rok _ | exact par_err _
  case mkf => exact par_rok _
  case fad off x =>
    unfold fadA
    generalize ev x tm = v
    cases v <;> first | exact par_okPtr _ _ | exact par_err _
  case fld a off n x =>
    unfold fldA
    generalize ev x tm = v
    cases v <;> first | exact par_cnd _ _ _ (par_okCells _) (par_okCell _) | exact par_err _
  case iad n x i =>
    unfold iadA
    generalize ev x tm = v
    cases v <;> first | exact par_oif _ _ _ fun m => par_cnd _ _ _ (par_okPtr _ _) (par_err _) | exact par_err _
  case iaa m n x i =>
    unfold iaaA
    generalize ev x tm = v
    cases v <;> first | exact par_oif _ _ _ fun m => par_cnd _ _ _ (par_okPtr _ _) (par_err _) | exact par_err _
  case ixa m n a x i =>
    unfold ixaA
    generalize ev x tm = v
    cases v <;> first | exact par_oif _ _ _ fun m => par_cnd _ _ _ (par_cnd _ _ _ (par_okCells _) (par_okCell _)) (par_err _) | exact par_err _
  case sla m n x lo hi =>
    unfold slaA
    generalize ev x tm = v
    cases v <;> first | exact par_oif _ _ _ fun l => par_oif _ _ _ fun h => par_slcX0 _ _ _ _ _ _ _ | exact par_err _
  case ixs x i =>
    unfold ixsA
    generalize ev x tm = v
    cases v <;> first | exact par_oif _ _ _ fun m => par_oif _ _ _ fun b => by simp only [seqN_eq]; exact par_rok _ | exact par_err _
  case ext x i =>
    unfold extA
    generalize ev x tm = v
    cases v <;> first | exact par_okCell _ | exact par_err _
  case len x =>
    unfold lenA
    generalize ev x tm = v
    cases v <;> first | exact par_okN _ | exact par_err _
  case lns x =>
    unfold lnsA
    generalize ev x tm = v
    cases v <;> first | exact par_okN _ | exact par_err _
  case cap x =>
    unfold capA
    generalize ev x tm = v
    cases v
    case slice a b c d => cases d <;> first | exact par_okN _ | exact par_err _
    all_goals first | exact par_okN _ | exact par_err _
  case mxm mx x xs => exact par_mxm _ _ _ _
  case mki => exact par_rok _
  case tas t x =>
    unfold tasA
    generalize ev x tm = v
    cases v <;> first | exact par_cnd _ _ _ (par_rok _) (par_err _) | exact par_err _

/-! what only looks: a new block changes nothing of it -/
/-- memory that holds what another holds -/
def St.le (S S2 : St) : Prop := ∀ b k, S.heap.get b = some k → S2.heap.get b = some k
theorem rowOf_le {S S2 : St} (h : S.le S2) {b : Nat} {cs : List AV} (hr : rowOf S b = some cs) : rowOf S2 b = some cs := by
  unfold rowOf at hr ⊢
  cases hg : S.heap.get b with
  | none => rw [hg] at hr; cases hr
  | some k => rw [hg] at hr; rw [h _ _ hg]; exact hr
theorem mapOf_le {S S2 : St} (h : S.le S2) {b : Nat} {p : List Ent × Nat} (hr : mapOf S b = some p) : mapOf S2 b = some p := by
  unfold mapOf at hr ⊢
  cases hg : S.heap.get b with
  | none => rw [hg] at hr; cases hr
  | some k => rw [hg] at hr; rw [h _ _ hg]; exact hr
theorem par_slcX (size b off c l h m : Nat) : Par fun S => slcX size S b off c l h m := by
  unfold slcX
  simp only [mkSl, seqN_eq]
  exact par_cnd _ _ _ (par_cnd _ _ _ (par_cnd _ _ _ (par_cnd _ _ _ (par_rok _) (par_rok _)) (par_err _)) (par_err _)) (par_err _)
theorem par_slcO (tm : Tm) (size : Nat) (mx : Option XA) (b off k l h kn : Nat) : Par fun S => slcO tm size mx S b off k l h kn := by
  unfold slcO
  cases mx with
  | none => simp only [oif_none, mkSl, seqN_eq]; exact par_cnd _ _ _ (par_cnd _ _ _ (par_cnd _ _ _ (par_rok _) (par_rok _)) (par_err _)) (par_err _)
  | some m => simp only [oif_some]; exact par_oif _ _ _ fun m => par_slcX _ _ _ _ _ _ _
theorem Par.le {g : St → Out} (h : Par g) {S S2 T : St} {v : AV} (hr : g S = .ok (v, T)) : T = S ∧ g S2 = .ok (v, S2) := ⟨(h S v T hr).1, (h S v T hr).2 S2⟩
theorem reads_le {xo : XOp} (h : xo.reads = true) {fs : List Fact} {call : CallT} {tm : Tm} {S S2 T : St} {v : AV} (hle : S.le S2) (hr : xo.run fs call tm S = .ok (v, T)) : T = S ∧ xo.run fs call tm S2 = .ok (v, S2) := by
  cases xo <;> (try (cases h; done)) <;> simp only [XOp.run, o1, o2] at hr ⊢
  case ld1 a =>
    unfold ld1A at hr ⊢
    split at hr
    · obtain ⟨cs, h1, h2⟩ := oif_eq_ok hr
      rw [rowOf_le hle h1]
      exact (par_okCell _).le h2
    · cases hr
  case ldn n a =>
    unfold ldnA at hr ⊢
    split at hr
    · obtain ⟨cs, h1, h2⟩ := oif_eq_ok hr
      rw [rowOf_le hle h1]
      exact (par_okCells _).le h2
    · cases hr
  case b2s x =>
    unfold b2sA at hr ⊢
    split at hr
    · exact (par_rok _).le hr
    · exact (par_rok _).le hr
    · obtain ⟨cs, h1, h2⟩ := oif_eq_ok hr
      rw [rowOf_le hle h1]
      exact Par.le (g := fun S => oif (sub? cs _ _) (err "convert") fun l => oif (bytesOf l) (err "convert bytes") fun s => seqL s fun s => rok (.str s) S) (par_oif _ _ _ fun l => par_oif _ _ _ fun s => by simp only [seqL_eq]; exact par_rok _) h2
    · cases hr
  case slc n x lo hi mx =>
    unfold slcA at hr ⊢
    split at hr
    · exact Par.le (g := fun S => oif (bnd tm 0 lo) (err "slice") fun l => oif (bnd tm 0 hi) (err "slice") fun h => oif (bnd tm 0 mx) (err "slice") fun m =>
        cnd (Nat.beq l 0) (cnd (Nat.beq h 0) (cnd (Nat.beq m 0) (rok .nils S) (err "slice")) (err "slice")) (err "slice")) (par_oif _ _ _ fun l => par_oif _ _ _ fun s => par_oif _ _ _ fun m => par_cnd _ _ _ (par_cnd _ _ _ (par_cnd _ _ _ (par_rok _) (par_err _)) (par_err _)) (par_err _)) hr
    · exact Par.le (g := fun S => oif (bnd tm 0 lo) (err "slice") fun l => oif (bnd tm _ hi) (err "slice") fun h => oif (bnd tm _ mx) (err "slice") fun m => slcX n S _ _ _ l h m) (par_oif _ _ _ fun l => par_oif _ _ _ fun s => par_oif _ _ _ fun m => par_slcX _ _ _ _ _ _ _) hr
    · obtain ⟨l, h1, r1⟩ := oif_eq_ok hr
      obtain ⟨h, h2, r2⟩ := oif_eq_ok r1
      obtain ⟨k, h3, r3⟩ := oif_eq_ok r2
      simp only [h1, h2, oif_some, hle _ _ h3]
      split at r3
      · exact Par.le (g := fun S => cnd (Nat.beq _ n) (cnd (Nat.beq _ (_ * n)) (cnd (Nat.blt 0 n) (seqN (Nat.div (Nat.sub (llen _) _) n) fun kn => slcO tm n mx S _ _ _ l h kn) (err "slice size")) (err "slice place")) (err "slice size")) (par_cnd _ _ _ (par_cnd _ _ _ (par_cnd _ _ _ (by simp only [seqN_eq]; exact par_slcO _ _ _ _ _ _ _ _ _) (par_err _)) (par_err _)) (par_err _)) r3
      · cases r3
    · cases hr
  case lkp kk z ok m k =>
    unfold lkpA at hr ⊢
    have pp : ∀ (a : Bool) (v : AV) (b : Bool), Par fun S => okPair S a v b := fun a v b => par_cnd _ _ _ (par_rok _) (par_rok _)
    split at hr
    · exact Par.le (g := fun S => cnd (keyOk kk _) (okPair S ok z false) (err "key")) (par_cnd _ _ _ (pp _ _ _) (par_err _)) hr
    · obtain ⟨p, h1, r1⟩ := oif_eq_ok hr
      rw [mapOf_le hle h1]
      refine Par.le (g := fun S => oif (findE kk _ p.1) (err "key") fun f => oif f (okPair S ok z false) fun q => okPair S ok q.2.val true) (par_oif _ _ _ fun f => ?_) r1
      cases f with
      | none => exact pp _ _ _
      | some q => exact pp _ _ _
    · cases hr
  case lnm x =>
    unfold lnmA at hr ⊢
    split at hr
    · exact (par_okN _).le hr
    · obtain ⟨p, h1, r1⟩ := oif_eq_ok hr
      rw [mapOf_le hle h1]
      exact (par_okN _).le r1
    · cases hr

/-- what makes a new block makes it -/
theorem news_new {xo : XOp} (h : xo.news = true) {fs : List Fact} {call : CallT} {tm : Tm} {S T : St} {v : AV} (hr : xo.run fs call tm S = .ok (v, T)) : ∃ k, T = S.new k := by
  cases xo <;> (try (cases h; done))
  case row e z => exact ⟨_, (newRow_ok hr).2⟩
  case box e x =>
    have hr : (seqV (ev x tm) fun v => cnd (allOne v.cells) (newRow S e none (.ptr S.next 0) v.cells) (err "box")) = .ok (v, T) := hr
    rw [seqV_eq] at hr
    exact ⟨_, (newRow_ok (cnd_eq_ok hr).2).2⟩
  case bsl e z n ps =>
    obtain ⟨cs, _, h2⟩ := oif_eq_ok (c := fillA tm ps z) hr
    exact ⟨_, (newRow_ok h2).2⟩
  case mkm => cases hr; exact ⟨_, rfl⟩
/-! two values that are the same, letter by letter -/
theorem ibeq_true {a b : Int} (h : ibeq a b = true) : a = b := by
  cases a <;> cases b <;> simp only [ibeq] at h <;> first | (rw [Nat.eq_of_beq_eq_true h]) | cases h
theorem cnd_and {a b : Bool} (h : cnd a b false = true) : a = true ∧ b = true := by
  cases a with
  | false => cases h
  | true => exact ⟨rfl, h⟩
theorem kindEq_true {a b : IntKind} (h : kindEq a b = true) : a = b := by cases a <;> cases b <;> first | rfl | cases h
theorem bEq_true {a b : Bool} (h : bEq a b = true) : a = b := by cases a <;> cases b <;> first | rfl | cases h
theorem leq_true : ∀ {a b : List Nat}, leq a b = true → a = b
  | [], [], _ => rfl
  | [], _ :: _, h => by cases h
  | _ :: _, [], h => by cases h
  | x :: a, y :: b, h => by
    obtain ⟨h1, h2⟩ := cnd_and (a := Nat.beq x y) (b := leq a b) h
    rw [Nat.eq_of_beq_eq_true h1, leq_true h2]
theorem cpEq_true {a b : Cp} (h : cpEq a b = true) : a = b := by
  cases a <;> cases b <;> simp only [cpEq] at h <;> first | (rw [Nat.eq_of_beq_eq_true h]) | cases h
theorem same1_true {x y : AV} (h : same1 x y = true) : x = y := by
  unfold same1 at h
  split at h
  · rw [bEq_true h]
  · obtain ⟨h1, h2⟩ := cnd_and h; rw [kindEq_true h1, ibeq_true h2]
  · obtain ⟨h1, h2⟩ := cnd_and h; rw [kindEq_true h1, ieq_of h2]
  · rw [leq_true h]
  · obtain ⟨h1, h2⟩ := cnd_and h; rw [Nat.eq_of_beq_eq_true h1, Nat.eq_of_beq_eq_true h2]
  · rfl
  · obtain ⟨h1, h2⟩ := cnd_and h
    obtain ⟨h2, h3⟩ := cnd_and h2
    obtain ⟨h3, h4⟩ := cnd_and h3
    rw [Nat.eq_of_beq_eq_true h1, Nat.eq_of_beq_eq_true h2, Nat.eq_of_beq_eq_true h3, cpEq_true h4]
  · rfl
  · rw [Nat.eq_of_beq_eq_true h]
  · rfl
  · rw [Nat.eq_of_beq_eq_true h]
  · rfl
  · cases h
theorem sameL_true : ∀ {a b : List AV}, sameL a b = true → a = b
  | [], [], _ => rfl
  | [], _ :: _, h => by cases h
  | _ :: _, [], h => by cases h
  | x :: a, y :: b, h => by
    obtain ⟨h1, h2⟩ := cnd_and (a := same1 x y) (b := sameL a b) h
    rw [same1_true h1, sameL_true h2]
theorem same2_true {x y : AV} (h : same2 x y = true) : x = y := by
  unfold same2 at h
  split at h
  · rw [sameL_true h]
  · exact same1_true h
theorem sameM_true : ∀ {a b : List AV}, sameM a b = true → a = b
  | [], [], _ => rfl
  | [], _ :: _, h => by cases h
  | _ :: _, [], h => by cases h
  | x :: a, y :: b, h => by
    obtain ⟨h1, h2⟩ := cnd_and (a := same2 x y) (b := sameM a b) h
    rw [same2_true h1, sameM_true h2]
theorem sameV_true {x y : AV} (h : sameV x y = true) : x = y := by
  unfold sameV at h
  split at h
  · rw [sameM_true h]
  · exact same2_true h
end Go.Proofs.YtdimeaooekhkhaaGreat.AX
