/- Proved: code, functions, calls: what the runner reckons is what the program does. No function of the program is walked here. -/
import Derived.Test.YtdimeaooekhkhaaGreatAxDraw2
import Derived.Laws.Sem
set_option linter.unusedVariables false
set_option linter.unusedSimpArgs false
namespace Go.Proofs.YtdimeaooekhkhaaGreat.AX
open Go.RowKit

section
variable {P : Program} {E : Env} {B nt : Nat} {ρ : Ren} {S S' : St} {w : World} {a : Act} {tm : Tm} {fs : List Fact} {call : CallT} {v : AV} {o : Oper} {xo : XOp} {ops : Array Oper}

/-! a loop, round for round -/
def Rnd (P : Program) (c : Code) (Q : Exit → Act → World → Prop) (a : Act) (w : World) : Prop :=
  ∀ (b : Frame) (k : List Item) (cs : List Frame), ∃ e a' w', Q e a' w' ∧ Arrives P (lone (b.at a (.code c :: .inLoop c :: k)) cs w) b k cs e a' w'
theorem rnd_step {c : Code} {Q : Exit → Act → World → Prop} (h : c.wp P (Exit.then (Rnd P c Q) Q) a w) : Rnd P c Q a w := by
  intro b k cs
  obtain ⟨e, a₁, w₁, hq, harr⟩ := h b (.inLoop c :: k) cs
  cases e with
  | normal =>
    obtain ⟨e₂, a₂, w₂, hq₂, harr₂⟩ := hq b k cs
    exact ⟨e₂, a₂, w₂, hq₂, .of_steps (Steps.trans harr (.one step_inLoop)) harr₂⟩
  | exit id => exact ⟨_, a₁, w₁, hq, .pass (x := .inLoop c) rfl (fun _ _ => .inl (by simp)) harr⟩
  | goto l => exact ⟨_, a₁, w₁, hq, .pass (x := .inLoop c) rfl (fun _ _ => .inl (by simp)) harr⟩
  | ret => exact ⟨_, a₁, w₁, hq, .pass (x := .inLoop c) rfl (fun _ _ => .inl (by simp)) harr⟩
  | panic ch => exact ⟨_, a₁, w₁, hq, .pass (x := .inLoop c) rfl (fun _ _ => .inl (by simp)) harr⟩
  | outgrown => exact ⟨_, a₁, w₁, hq, .pass (x := .inLoop c) rfl (fun _ _ => .inl (by simp)) harr⟩
theorem rnd_loop {c : Code} {Q : Exit → Act → World → Prop} (h : Rnd P c Q a w) : (Code.loop c).wp P Q a w := by
  intro b k cs
  obtain ⟨e, a', w', hq, harr⟩ := h b k cs
  exact ⟨e, a', w', hq, .of_steps (.one step_loop) harr⟩

def Ex.of : Ex → Exit
  | .normal => .normal
  | .exit id => .exit id
  | .ret => .ret
/-- how code ends -/
def Ends (E : Env) (B nt : Nat) (ρ : Ren) (S : St) (w : World) (df : List Deferred) (p : Ex × Fr) (Q : Exit → Act → World → Prop) : Prop :=
  ∀ ρ' a' w', a'.tmps.size = nt → a'.defers = df → AR E ρ' p.2.tm a' → HR E B ρ' p.2.st w' → Ext B ρ S w ρ' p.2.st w' → Q p.1.of a' w'
def CodeOK (P : Program) (E : Env) (B nt : Nat) (fs : List Fact) (call : CallT) (c : Code) : Prop :=
  ∀ ρ tm S a w p Q, (comp P nt c).run fs call tm S = .ok p → a.tmps.size = nt → AR E ρ tm a → HR E B ρ S w → Ends E B nt ρ S w a.defers p Q → c.wp P Q a w

theorem code_seq {x y : Code} (hx : CodeOK P E B nt fs call x) (hy : CodeOK P E B nt fs call y) : CodeOK P E B nt fs call (.seq x y) := by
  intro ρ tm S a w p Q h hsz hA hS hQ
  have h : R.bind ((comp P nt x).run fs call tm S) (thenX (comp P nt y).run fs call) = .ok p := h
  obtain ⟨⟨e, F⟩, h1, h2⟩ := bind_eq_ok h
  refine wp_seq (hx ρ tm S a w _ _ h1 hsz hA hS fun ρ' a' w' q1 q2 q3 q4 q5 => ?_)
  cases e with
  | normal => exact hy ρ' F.tm F.st a' w' p Q h2 q1 q3 q4 fun ρ2 a2 w2 r1 r2 r3 r4 r5 => hQ ρ2 a2 w2 r1 (r2.trans q2) r3 r4 (q5.trans r5)
  | exit id => cases h2; exact hQ ρ' a' w' q1 q2 q3 q4 q5
  | ret => cases h2; exact hQ ρ' a' w' q1 q2 q3 q4 q5
theorem code_cond {c : Operand} {x y : Code} (hx : CodeOK P E B nt fs call x) (hy : CodeOK P E B nt fs call y) : CodeOK P E B nt fs call (.cond c x y) := by
  intro ρ tm S a w p Q h hsz hA hS hQ
  have hh : (match XA.of c with | some c => XC.cond c (comp P nt x) (comp P nt y) | none => .bad).run fs call tm S = .ok p := h
  split at hh
  · rename_i xa hxa
    have hv : VR E ρ (ev xa tm) (a.eval c) := by
      cases c with
      | tmp t => cases hxa; exact hA t
      | const c => obtain ⟨y, hy, rfl⟩ := mapO hxa; exact ofV_VR hy
      | global g => cases hxa; rfl
      | func g => cases hxa; exact ⟨#[], #[], rfl, trivial, trivial⟩
    have hh : condX (comp P nt x).run (comp P nt y).run (ev xa tm) fs call tm S = .ok p := hh
    generalize ev xa tm = u at hh hv
    cases u
    case bool b =>
      have hv : a.eval c = .bool b := hv
      refine wp_cond hv ?_
      cases b with
      | true => exact hx ρ tm S a w p Q hh hsz hA hS hQ
      | false => exact hy ρ tm S a w p Q hh hsz hA hS hQ
    all_goals cases hh
  · cases hh
theorem code_block {id : Nat} {x : Code} (hx : CodeOK P E B nt fs call x) : CodeOK P E B nt fs call (.block id x) := by
  intro ρ tm S a w p Q h hsz hA hS hQ
  have h : R.bind ((comp P nt x).run fs call tm S) (inBlk id) = .ok p := h
  obtain ⟨⟨e, F⟩, h1, h2⟩ := bind_eq_ok h
  refine wp_block (hx ρ tm S a w _ _ h1 hsz hA hS fun ρ' a' w' q1 q2 q3 q4 q5 => ?_)
  cases e with
  | normal => cases h2; exact hQ ρ' a' w' q1 q2 q3 q4 q5
  | exit j =>
    have h2 : cnd (Nat.beq j id) (R.ok (.normal, F)) (.ok (.exit j, F)) = .ok p := h2
    show (if j = id then Q .normal a' w' else Q (.exit j) a' w')
    by_cases e : j = id
    · subst e
      rw [if_pos rfl]
      rw [show Nat.beq j j = true from Nat.beq_refl j] at h2
      cases h2
      exact hQ ρ' a' w' q1 q2 q3 q4 q5
    · rw [if_neg e]
      rw [show Nat.beq j id = false from by cases hb : Nat.beq j id with | false => rfl | true => exact absurd (Nat.eq_of_beq_eq_true hb) e] at h2
      cases h2
      exact hQ ρ' a' w' q1 q2 q3 q4 q5
  | ret => cases h2; exact hQ ρ' a' w' q1 q2 q3 q4 q5
theorem code_loop {x : Code} (hx : CodeOK P E B nt fs call x) : CodeOK P E B nt fs call (.loop x) := by
  intro ρ tm S a w p Q h hsz hA hS hQ
  refine rnd_loop ?_
  have h : iter (bodyX (comp P nt x).run fs call) rounds ⟨tm, S⟩ = .ok p := h
  generalize rounds = n at h
  suffices H : ∀ n ρ tm S a w, iter (bodyX (comp P nt x).run fs call) n ⟨tm, S⟩ = .ok p → a.tmps.size = nt → AR E ρ tm a → HR E B ρ S w → Ends E B nt ρ S w a.defers p Q → Rnd P x Q a w from H n ρ tm S a w h hsz hA hS hQ
  intro n
  induction n with
  | zero => intro ρ tm S a w h; cases h
  | succ n ih =>
    intro ρ tm S a w h hsz hA hS hQ
    have h : R.rec (motive := fun _ => R (Ex × Fr)) (fun x' => Sum.rec (motive := fun _ => R (Ex × Fr)) .ok (fun s => later (iter (bodyX (comp P nt x).run fs call) n s)) x') .err (R.bind ((comp P nt x).run fs call tm S) roundX) = .ok p := h
    cases hb : (comp P nt x).run fs call tm S with
    | err s => rw [hb] at h; cases h
    | ok q =>
      rw [hb] at h
      obtain ⟨e, F⟩ := q
      refine rnd_step (hx ρ tm S a w _ _ hb hsz hA hS fun ρ' a' w' q1 q2 q3 q4 q5 => ?_)
      cases e with
      | normal => exact ih ρ' F.tm F.st a' w' h q1 q3 q4 fun ρ2 a2 w2 r1 r2 r3 r4 r5 => hQ ρ2 a2 w2 r1 (r2.trans q2) r3 r4 (q5.trans r5)
      | exit j => cases h; exact hQ ρ' a' w' q1 q2 q3 q4 q5
      | ret => cases h; exact hQ ρ' a' w' q1 q2 q3 q4 q5
/-- all code that is laid out -/
theorem code_ok (hm : P.follows .mixedOrders = true) (hF : FactsOK E fs) (hcall : CallOK P E call) : ∀ c : Code, CodeOK P E B nt fs call c
  | .skip => fun ρ tm S a w p Q h hsz hA hS hQ => by cases h; exact wp_skip (hQ ρ a w hsz rfl hA hS (Ext.refl B ρ S w))
  | .label l => fun ρ tm S a w p Q h hsz hA hS hQ => by cases h; exact wp_label (hQ ρ a w hsz rfl hA hS (Ext.refl B ρ S w))
  | .region id ops draw => fun ρ tm S a w p Q h hsz hA hS hQ => by
    have h : (compReg P nt ops draw).run fs call tm S = .ok p := h
    have hc : (∃ l, compReg P nt ops draw = .reg l) ∨ compReg P nt ops draw = .bad := by
      unfold compReg
      split
      · exact .inl ⟨_, rfl⟩
      · rw [seqL_eq]
        unfold planOf
        split
        · exact .inl ⟨_, rfl⟩
        · exact .inr rfl
    rcases hc with ⟨l, hc⟩ | hc
    · rw [hc] at h
      have h : R.bind (opsX l fs call tm S) nrm = .ok p := h
      obtain ⟨F, h1, h2⟩ := bind_eq_ok h
      cases h2
      exact wp_reg hm hF hcall hc hsz hA hS h1 hQ
    · rw [hc] at h; cases h
  | .seq x y => code_seq (code_ok hm hF hcall x) (code_ok hm hF hcall y)
  | .cond c x y => code_cond (code_ok hm hF hcall x) (code_ok hm hF hcall y)
  | .block id x => code_block (code_ok hm hF hcall x)
  | .loop x => code_loop (code_ok hm hF hcall x)
  | .exit id => fun ρ tm S a w p Q h hsz hA hS hQ => by cases h; exact wp_exit (hQ ρ a w hsz rfl hA hS (Ext.refl B ρ S w))
  | .ret => fun ρ tm S a w p Q h hsz hA hS hQ => by cases h; exact wp_ret (hQ ρ a w hsz rfl hA hS (Ext.refl B ρ S w))
  | .rangeFunc .. => fun ρ tm S a w p Q h hsz hA hS hQ => by cases h
  | .scope _ => fun ρ tm S a w p Q h hsz hA hS hQ => by cases h
  | .goto _ => fun ρ tm S a w p Q h hsz hA hS hQ => by cases h
  | .refuse _ => fun ρ tm S a w p Q h hsz hA hS hQ => by cases h

/-! results -/
theorem ld1_var (hS : HR E B ρ S w) {t : TypeId} (ha : cAgg P t = some false) {u : AV} {x : Value} (hx : VR E ρ u x) (hr : ld1A S u = .ok (v, S')) : ∃ ad y, x = .pointer (some ad) ∧ (loadVar t ad).run P w = .ok y w ∧ VR E ρ v y := by
  unfold ld1A at hr
  split at hr
  · obtain ⟨g, c, hg, hy⟩ := hx
    obtain ⟨cs, hcs, r1⟩ := oif_eq_ok hr
    obtain ⟨y, hyv, r2⟩ := oif_eq_ok r1
    cases r2
    obtain ⟨e, op, hblk⟩ := rowOf_spec hcs
    rw [nth?_eq] at hyv
    obtain ⟨z, hz, hvz⟩ := hS.cell hblk hg hyv
    exact ⟨_, z, hy, by simp only [loadVar, Sem.run_bind, Sem.run_pure, Result.andThen_ok, run_agg ha, Bool.false_eq_true, if_false, run_load, hz], hvz⟩
  · exact (err_ok hr).elim
theorem ldn_var (hS : HR E B ρ S w) {t : TypeId} {n : Nat} (ha : cAgg P t = some true) (hn : cSize P t = some n) {u : AV} {x : Value} (hx : VR E ρ u x) (hr : ldnA n S u = .ok (v, S')) : ∃ ad y, x = .pointer (some ad) ∧ (loadVar t ad).run P w = .ok y w ∧ VR E ρ v y := by
  unfold ldnA at hr
  split at hr
  · rename_i b off
    obtain ⟨g, c, hg, hy⟩ := hx
    obtain ⟨cs, hcs, r1⟩ := oif_eq_ok hr
    obtain ⟨l, hl, r2⟩ := oif_eq_ok r1
    rw [seqL_eq] at r2
    cases r2
    obtain ⟨e, op, hblk⟩ := rowOf_spec hcs
    obtain ⟨xs, hxs, hlen, hcell⟩ := hS.stretch hblk hg hl
    have hld : (loadCells ⟨g, off, none⟩ n).run P w = .ok xs.toArray w := by
      rw [← hlen]
      exact run_loadCells_list w ⟨g, off, none⟩ xs (fun j u hj => by rw [add_off]; exact hcell j u hj)
    exact ⟨_, .agg xs.toArray, hy, by simp only [loadVar, Sem.run_bind, Sem.run_pure, Result.andThen_ok, run_agg ha, if_true, run_size hn, hld], ⟨_, rfl, by simpa using hxs⟩⟩
  · exact (err_ok hr).elim
def resOne (tmps : Array Value) : ResultVar → Sem Value
  | .tmp t => pure (tmps.getD t Go.undef)
  | .cell a t => do loadVar t (← asAddr (tmps.getD a Go.undef))
theorem res_ok (hA : AR E ρ tm a) (hS : HR E B ρ S w) : ∀ {rl : List ResultVar} {r : List XR} {l : List AV}, compR P rl = some r → resX tm S r = some l → ∃ xs, (rl.mapM (resOne a.tmps)).run P w = .ok xs w ∧ VRs E ρ l xs
  | [], r, l, hc, hr => by cases hc; cases hr; exact ⟨[], rfl, trivial⟩
  | .tmp t :: rl, r, l, hc, hr => by
    obtain ⟨r', hc', rfl⟩ := mapO hc
    have hr : oif (resX tm S r') none (fun l => some (eTmp t tm :: l)) = some l := hr
    cases h1 : resX tm S r' with
    | none => rw [h1] at hr; cases hr
    | some l' =>
      rw [h1] at hr
      cases hr
      obtain ⟨xs, h2, h3⟩ := res_ok hA hS hc' h1
      exact ⟨_ :: xs, by simp only [List.mapM_cons, resOne, Sem.run_bind, Sem.run_pure, Result.andThen_ok, h2], hA t, h3⟩
  | .cell c t :: rl, r, l, hc, hr => by
    unfold compR at hc
    split at hc
    · rename_i n r' ha hn hc'
      cases hc
      have hr : oif (resX tm S r') none (fun l => match ldnA n S (eTmp c tm) with | .ok (v, _) => some (v :: l) | .err _ => none) = some l := hr
      cases h1 : resX tm S r' with
      | none => rw [h1] at hr; cases hr
      | some l' =>
        rw [h1] at hr
        simp only [oif_some] at hr
        split at hr
        · rename_i v S' hld
          cases hr
          obtain ⟨xs, h2, h3⟩ := res_ok hA hS hc' h1
          obtain ⟨ad, y, e1, e2, e3⟩ := ldn_var hS ha hn (hA c) hld
          exact ⟨y :: xs, by simp only [List.mapM_cons, resOne, e1, asAddr, Sem.run_bind, Sem.run_pure, Result.andThen_ok, e2, h2], e3, h3⟩
        · cases hr
    · rename_i n r' ha hn hc'
      cases hc
      have hr : oif (resX tm S r') none (fun l => match ld1A S (eTmp c tm) with | .ok (v, _) => some (v :: l) | .err _ => none) = some l := hr
      cases h1 : resX tm S r' with
      | none => rw [h1] at hr; cases hr
      | some l' =>
        rw [h1] at hr
        simp only [oif_some] at hr
        split at hr
        · rename_i v S' hld
          cases hr
          obtain ⟨xs, h2, h3⟩ := res_ok hA hS hc' h1
          obtain ⟨ad, y, e1, e2, e3⟩ := ld1_var hS ha (hA c) hld
          exact ⟨y :: xs, by simp only [List.mapM_cons, resOne, e1, asAddr, Sem.run_bind, Sem.run_pure, Result.andThen_ok, e2, h2], e3, h3⟩
        · cases hr
    · cases hc
theorem results_ok (hA : AR E ρ tm a) (hS : HR E B ρ S w) {fn : Func} {r : List XR} {l : List AV} (hc : compR P fn.results.toList = some r) (hr : resX tm S r = some l) : ∃ x, (results fn a.tmps).run P w = .ok x w ∧ VR E ρ (tupA l) x := by
  obtain ⟨xs, h1, h2⟩ := res_ok hA hS hc hr
  have h3 : (fn.results.mapM (resOne a.tmps)).run P w = .ok xs.toArray w := by
    rw [Array.mapM_eq_mapM_toList, map_eq_pure_bind]
    simp only [Sem.run_bind, h1, Result.andThen_ok, Sem.run_pure]
  have h4 : results fn a.tmps = (do
      let vs ← fn.results.mapM (resOne a.tmps)
      pure (if h : vs.size = 1 then vs[0] else .tuple vs)) := by
    unfold results
    congr 1
  rw [h4]
  refine ⟨(if h : xs.toArray.size = 1 then xs.toArray[0] else .tuple xs.toArray), by simp only [Sem.run_bind, h3, Result.andThen_ok, Sem.run_pure], ?_⟩
  have hl := h2.length
  unfold tupA
  split
  · obtain ⟨x, m, rfl, h5, h6⟩ := VRs.cons_iff.1 h2
    rw [VRs.nil_iff.1 h6]
    exact h5
  · rename_i hne
    have : ¬ xs.toArray.size = 1 := fun e => by
      have e : xs.length = 1 := by simpa using e
      rw [e] at hl
      match l, hl with
      | [x], _ => exact hne x rfl
    rw [dif_neg this]
    exact ⟨_, rfl, by simpa using h2⟩

/-! functions -/
theorem argsX_get : ∀ (l : List AV) (i : Nat) (tm : Tm) (t : Nat), (argsX l i tm).get t = if i ≤ t ∧ t < i + l.length then l[t - i]? else tm.get t
  | [], i, tm, t => by
    show tm.get t = _
    rw [if_neg (by simp)]
  | v :: l, i, tm, t => by
    have e : argsX (v :: l) i tm = argsX l (i + 1) (tm.put i (some v)) := by
      show seqV v (fun v => seqT (tm.put i (some v)) fun tm => argsX l (Nat.succ i) tm) = _
      rw [seqV_eq, seqT_eq]
    rw [e, argsX_get l, get_put]
    by_cases h1 : t = i
    · subst h1
      rw [if_neg (by omega), if_pos rfl, if_pos (by simp)]
      simp
    · rw [if_neg h1]
      by_cases h2 : i + 1 ≤ t ∧ t < i + 1 + l.length
      · rw [if_pos h2, if_pos (by simp; omega)]
        rw [show t - i = (t - (i + 1)) + 1 from by omega, List.getElem?_cons_succ]
      · rw [if_neg h2, if_neg (by simp; omega)]
theorem llen_eq' {α : Type} (l : List α) : llen l = l.length := by
  induction l with
  | nil => rfl
  | cons a l ih => show Nat.succ (llen l) = _; rw [ih]; rfl
theorem AR.enter {args : List AV} {xs : Array Value} (h : VRs E ρ args xs.toList) (n : Nat) : AR E ρ (argsX args 0 .lf) { tmps := xs ++ Array.replicate n Go.undef, defers := [] } := by
  intro t
  have hl : args.length = xs.size := by rw [VRs.length h, Array.length_toList]
  show VR E ρ (orU ((argsX args 0 .lf).get t)) _
  rw [argsX_get, get_lf]
  simp only [Array.getD_eq_getD_getElem?, Array.getElem?_append, Array.getElem?_replicate]
  by_cases ht : t < args.length
  · rw [if_pos (by omega), if_pos (by omega), Nat.sub_zero, List.getElem?_eq_getElem ht]
    obtain ⟨x, hx, hv⟩ := h.get (List.getElem?_eq_getElem ht)
    rw [Array.getElem?_toList] at hx
    rw [hx]
    exact hv
  · rw [if_neg (by omega), if_neg (by omega)]
    split <;> exact VR.undef E ρ
/-- a function of the table -/
theorem enter_ok (hm : P.follows .mixedOrders = true) (hF : FactsOK E fs) (hcall : CallOK P E call) {f : Nat} {fn : Func} {xf : XF} (hfn : P.funcs[f]? = some fn) (hc : compF P fn = some xf) {args : List AV} {xs : Array Value}
    (hx : VRs E ρ args xs.toList) (hS : HR E B ρ S w) (hr : enterX fs call (.code xf) args S = .ok (v, S')) :
    Calls P f xs w fun
      | .returned x, w' => ∃ ρ', VR E ρ' v x ∧ HR E B ρ' S' w' ∧ Ext B ρ S w ρ' S' w'
      | _, _ => False := by
  unfold compF at hc
  split at hc
  · rename_i c r hb hres
    cases hc
    have hr : cnd (Nat.ble (llen args) fn.ntmps) (seqT (argsX args 0 .lf) fun tm => R.bind ((comp P fn.ntmps c).run fs call tm S) (leave r)) (.err "arguments") = .ok (v, S') := hr
    obtain ⟨h1, h2⟩ := cnd_eq_ok hr
    rw [seqT_eq] at h2
    obtain ⟨⟨e, F⟩, h3, h4⟩ := bind_eq_ok h2
    have hlen : args.length ≤ fn.ntmps := by rw [← llen_eq']; exact Nat.le_of_ble_eq_true h1
    have hl : args.length = xs.size := by rw [VRs.length hx, Array.length_toList]
    refine calls_of_wp hfn hb (code_ok hm hF hcall c ρ _ S _ w _ _ h3 (by simp; omega) (AR.enter hx _) hS fun ρ' a' w' q1 q2 q3 q4 q5 => ?_)
    have fin : ∀ {v S'}, (oif (resX F.tm F.st r) (err "results") fun l => seqVs l fun l => seqV (tupA l) fun v => .ok (v, F.st)) = .ok (v, S') → ∃ x, (results fn a'.tmps).run P w' = .ok x w' ∧ ∃ ρ', VR E ρ' v x ∧ HR E B ρ' S' w' ∧ Ext B ρ S w ρ' S' w' := by
      intro v S' h
      obtain ⟨l, h5, h6⟩ := oif_eq_ok h
      have hsv : ∀ (l : List AV) (f : List AV → Out), seqVs l f = f l := fun l => by
        induction l with
        | nil => exact fun f => rfl
        | cons y l ih => intro f; show seqV y (fun v => seqVs l fun r => f (v :: r)) = _; rw [seqV_eq, ih]
      rw [hsv, seqV_eq] at h6
      cases h6
      obtain ⟨x, h7, h8⟩ := results_ok q3 q4 hres h5
      exact ⟨x, h7, ρ', h8, q4, q5⟩
    cases e with
    | normal => exact ⟨q2, fin h4⟩
    | ret => exact ⟨q2, fin h4⟩
    | exit id => cases h4
  · cases hc

/-- what is asked of a function that is not run -/
def ExtOK (P : Program) (E : Env) (f : Nat) (g : CallT → List AV → St → Out) : Prop := ∀ call, CallOK P E call → ∀ args S v S', g call args S = .ok (v, S') → ∀ B ρ w (xs : Array Value), VRs E ρ args xs.toList → HR E B ρ S w →
  Does P f xs w fun x w' => ∃ ρ', VR E ρ' v x ∧ HR E B ρ' S' w' ∧ Ext B ρ S w ρ' S' w'
/-- the table tells the program's functions -/
def TabOK (P : Program) (E : Env) (T : Tr XE) : Prop := ∀ f e, T.get f = some e → match e with
  | .code xf => ∃ fn, P.funcs[f]? = some fn ∧ compF P fn = some xf ∧ ∀ xs w, (callFunc f xs).run P w = .ok (.enter f xs) w
  | .ext g => ExtOK P E f g
theorem callX_ok (hm : P.follows .mixedOrders = true) (hF : FactsOK E fs) {T : Tr XE} (hT : TabOK P E T) (hcall : CallOK P E call) : CallOK P E (callX T fs call) := by
  intro f args S v S' h B ρ w xs hx hS
  obtain ⟨e, h1, h2⟩ := oif_eq_ok h
  have := hT f e h1
  cases e with
  | code xf =>
    obtain ⟨fn, h3, h4, h5⟩ := this
    exact .inr ⟨h5 xs w, enter_ok hm hF hcall h3 h4 hx hS h2⟩
  | ext g => exact this call hcall args S v S' h2 B ρ w xs hx hS
/-- the runner tells the program -/
theorem run_ok (hm : P.follows .mixedOrders = true) (hF : FactsOK E fs) {T : Tr XE} (hT : TabOK P E T) : ∀ n, CallOK P E (run T fs n)
  | 0 => fun f args S v S' h => by cases h
  | n + 1 => callX_ok hm hF hT (run_ok hm hF hT n)
end
end Go.Proofs.YtdimeaooekhkhaaGreat.AX
