/- Proved: a region's operations one after another: what the runner reckons is what the model does. No function of the program is walked here. -/
import Derived.Test.YtdimeaooekhkhaaGreatAxPar
set_option linter.unusedVariables false
set_option linter.unusedSimpArgs false
namespace Go.Proofs.YtdimeaooekhkhaaGreat.AX
open Go.RowKit

/-- what a call does: it yields a value here and now, or it is entered and returns -/
def Does (P : Program) (g : FuncId) (xs : Array Value) (w : World) (R : Value → World → Prop) : Prop :=
  (∃ x w', (callFunc g xs).run P w = .ok (.value x) w' ∧ R x w') ∨
  ((callFunc g xs).run P w = .ok (.enter g xs) w ∧ Calls P g xs w fun
    | .returned v, w' => R v w'
    | _, _ => False)
/-- the runner's calls are the model's -/
def CallOK (P : Program) (E : Env) (call : CallT) : Prop := ∀ g args S v S', call g args S = .ok (v, S') → ∀ B ρ w (xs : Array Value), VRs E ρ args xs.toList → HR E B ρ S w →
  Does P g xs w fun x w' => ∃ ρ', VR E ρ' v x ∧ HR E B ρ' S' w' ∧ Ext B ρ S w ρ' S' w'

section
variable {P : Program} {E : Env} {B nt : Nat} {ρ : Ren} {S S' : St} {w : World} {a : Act} {tm : Tm} {fs : List Fact} {call : CallT} {v : AV} {o : Oper} {xo : XOp} {ops : Array Oper}

structure XSok (P : Program) (nt : Nat) (ops : Array Oper) (o : Oper) (x : XS) : Prop where
  d : x.d = o.dst
  lt : ∀ d, o.dst = some d → d < nt
  g : (o.guard = none ∧ x.g = none) ∨ ∃ j b s, o.guard = some (j, b) ∧ (ops[j]?).bind (·.dst) = some s ∧ x.g = some ⟨s, b⟩
  op : x.op = compOp P o.op
theorem compS_ok (P : Program) (nt : Nat) (ops : Array Oper) (o : Oper) (chk : List XK) : (XSok P nt ops o (compS P nt ops o chk) ∧ (compS P nt ops o chk).chk = chk) ∨ compS P nt ops o chk = ⟨none, none, .bad, []⟩ := by
  unfold compS
  split
  · rename_i d hd
    split
    · rename_i hlt
      have hl : ∀ d', o.dst = some d' → d' < nt := fun d' h' => by rw [hd] at h'; cases h'; exact hlt
      split
      · rename_i hg
        exact .inl ⟨⟨hd.symm, hl, .inl ⟨hg, rfl⟩, rfl⟩, rfl⟩
      · rename_i j b hg
        split
        · rename_i s hs
          exact .inl ⟨⟨hd.symm, hl, .inr ⟨j, b, s, hg, hs, rfl⟩, rfl⟩, rfl⟩
        · exact .inr rfl
    · exact .inr rfl
  · rename_i hd
    have hl : ∀ d', o.dst = some d' → d' < nt := fun d' h' => by rw [hd] at h'; cases h'
    split
    · rename_i hg
      exact .inl ⟨⟨hd.symm, hl, .inl ⟨hg, rfl⟩, rfl⟩, rfl⟩
    · rename_i j b hg
      split
      · rename_i s hs
        exact .inl ⟨⟨hd.symm, hl, .inr ⟨j, b, s, hg, hs, rfl⟩, rfl⟩, rfl⟩
      · exact .inr rfl

theorem step_split {x : XS} {ih : OpsT} {F : Fr} (h : stepX x ih fs call tm S = .ok F) :
    (wantX x.g tm = .ok false ∧ ih fs call (putO x.d undefA tm) S = .ok F) ∨
    (wantX x.g tm = .ok true ∧ ∃ v S', x.op.run fs call tm S = .ok (v, S') ∧ fin ih fs call x.chk (putO x.d v tm) S' = .ok F) := by
  obtain ⟨d, g, op, chk⟩ := x
  cases g with
  | none =>
    have h : R.bind (op.run fs call tm S) (goOn d chk ih fs call tm) = .ok F := h
    obtain ⟨⟨v, S'⟩, h1, h2⟩ := bind_eq_ok h
    refine .inr ⟨rfl, v, S', h1, ?_⟩
    simpa only [goOn, seqV_eq, seqT_eq, seqSt_eq] using h2
  | some g =>
    have h : R.bind (wantV g.want (eTmp g.slot tm)) (fun w => cnd w (R.bind (op.run fs call tm S) (goOn d chk ih fs call tm)) (skipO d ih fs call tm S)) = .ok F := h
    obtain ⟨b, h1, h2⟩ := bind_eq_ok h
    cases b with
    | false => exact .inl ⟨h1, by simpa only [cnd_false, skipO, seqT_eq, later_eq] using h2⟩
    | true =>
      obtain ⟨⟨v, S'⟩, h3, h4⟩ := bind_eq_ok (x := op.run fs call tm S) h2
      refine .inr ⟨h1, v, S', h3, ?_⟩
      simpa only [goOn, seqV_eq, seqT_eq, seqSt_eq] using h4
theorem fin_split {ih : OpsT} {chk : List XK} {F : Fr} (h : fin ih fs call chk tm S = .ok F) : chkX fs call tm S chk = true ∧ ih fs call tm S = .ok F := by
  unfold fin at h
  split at h
  · exact ⟨rfl, h⟩
  · rename_i k l
    obtain ⟨h1, h2⟩ := cnd_eq_ok h
    exact ⟨h1, h2⟩
theorem bad_step {ih : OpsT} {F : Fr} : stepX ⟨none, none, .bad, []⟩ ih fs call tm S ≠ .ok F := fun h => by
  rcases step_split h with ⟨h1, _⟩ | ⟨_, v, S', h1, _⟩
  · cases h1
  · exact bad_run h1

/-- the slots that an operation looks at hold what the runner says -/
def Sees (E : Env) (ρ : Ren) (ops : Array Oper) (o : Oper) (tm : Tm) (a : Act) : Prop := ∀ s ∈ o.looksAt ops, VR E ρ (eTmp s tm) (a.tmps.getD s Go.undef)
theorem wanted_eq {x : XS} {b : Bool} (hx : XSok P nt ops o x) (hv : Sees E ρ ops o tm a) (hw : wantX x.g tm = .ok b) : Region.wanted o (yielded ops a.tmps) = b := by
  rcases hx.g with ⟨hg, hxg⟩ | ⟨j, b', s, hg, hs, hxg⟩
  · rw [hxg] at hw
    cases hw
    simp [Region.wanted, hg]
  · have hm := hv s (by simp [Oper.looksAt, hg, hs])
    rw [hxg] at hw
    have hw : wantV b' (eTmp s tm) = .ok b := hw
    simp only [Region.wanted, hg, yielded, hs, Option.bind_some]
    unfold wantV at hw
    split at hw
    · rename_i c hc
      rw [hc] at hm
      have hm : a.tmps.getD s Go.undef = .bool c := hm
      cases hw
      rw [Array.getD_eq_getD_getElem?] at hm
      cases ht : a.tmps[s]? with
      | none => rw [ht] at hm; cases hm
      | some y => rw [ht] at hm; cases hm; simp only; cases c <;> cases b' <;> rfl
    · rename_i hc
      rw [hc] at hm
      obtain ⟨xs, hm, _⟩ := hm
      cases hw
      rw [Array.getD_eq_getD_getElem?] at hm
      cases ht : a.tmps[s]? with
      | none => rfl
      | some y => rw [ht] at hm; cases hm; rfl
    · cases hw
theorem hops (hv : Sees E ρ ops o tm a) : ∀ x ∈ o.op.operands.toList, Hop E ρ a.eval tm x := by
  intro x hx xa hxa
  cases x with
  | tmp t => cases hxa; exact hv t (List.mem_append_left _ (List.mem_filterMap.2 ⟨.tmp t, hx, rfl⟩))
  | const c =>
    obtain ⟨y, hy, rfl⟩ := mapO hxa
    exact ofV_VR hy
  | global g => cases hxa; rfl
  | func g => cases hxa; exact ⟨#[], #[], rfl, trivial, trivial⟩

theorem ofs_hops : ∀ {l : List Operand} {r : List XA}, XA.ofs l = some r → (∀ x ∈ l, Hop E ρ a.eval tm x) → VRs E ρ (r.map (ev · tm)) (l.map a.eval)
  | [], r, h, _ => by cases h; trivial
  | x :: l, r, h, hH => by
    unfold XA.ofs at h
    split at h
    · rename_i y s hy hs
      cases h
      exact ⟨hH x (by simp) y hy, ofs_hops hs fun z hz => hH z (by simp [hz])⟩
    · cases h

/-- an operation that the runner has done: whatever is to follow -/
theorem exec_op {K : Act → World → Prop} {Q : Exit → Act → World → Prop} (hF : FactsOK E fs) (hcall : CallOK P E call) (hS : HR E B ρ S w) (hc : compOp? P o.op = some xo) (hv : Sees E ρ ops o tm a) (hr : xo.run fs call tm S = .ok (v, S'))
    (hK : ∀ ρ' x w', VR E ρ' v x → HR E B ρ' S' w' → Ext B ρ S w ρ' S' w' → K (a.put o.dst x) w') : o.wp P a w K Q := by
  have he : EffG P E B ρ S w S' a.eval o v → o.wp P a w K Q := by
    rintro ⟨ρ', x, w', nx, h1, h2, h3, h4, h5⟩
    unfold Oper.wp
    rw [h1]
    rcases h2 with rfl | ⟨rfl, rfl⟩
    · exact hK _ _ _ h3 h4 h5
    · exact hK _ _ _ h3 h4 h5
  rcases cls (f := a.eval) (w := w) hF (fun _ => hS) (hops hv) (fun _ => rfl) hc hr with ⟨_, h⟩ | ⟨_, h⟩ | ⟨_, h⟩ | ⟨_, _, _, h⟩
  · exact he (h.eff hS)
  · exact he (h.eff hS)
  · exact he (h.eff hS)
  · rcases h with h | ⟨c, fo, g, l, hop, hcal, hg, hl, rfl⟩
    · exact he h
    · have hH := hops hv
      have hfo : fo ∈ o.op.operands.toList := by rw [hop]; simp [Op.operands, Call.operands, hcal]
      have hgv := hH fo hfo g hg
      have hargs := ofs_hops (a := a) hl fun x hx => hH x (by rw [hop]; simp only [Op.operands, Call.operands, Array.toList_append]; exact List.mem_append_right _ hx)
      have hr : evs tm l (fun l => calA call l S (ev g tm)) = .ok (v, S') := hr
      rw [evs_eq] at hr
      unfold calA at hr
      split at hr
      · rename_i gid first cap hgg
        rw [hgg] at hgv
        obtain ⟨xs, ys, hx, h1, h2⟩ := hgv
        have hrun : (execOp a.eval o).run P w = (callFunc gid ((xs ++ c.args.map a.eval) ++ ys)).run P w := by
          simp only [execOp, hop, resolve, hcal, hx, Deferred.ofValue]
          rfl
        have hD := hcall gid _ S v S' hr B ρ w ((xs ++ c.args.map a.eval) ++ ys) (by
          simp only [Array.toList_append, Array.toList_map, List.append_assoc]
          exact h1.append (hargs.append h2)) hS
        unfold Oper.wp
        rw [hrun]
        rcases hD with ⟨x, w', h3, ρ', h4, h5, h6⟩ | ⟨h3, h4⟩
        · rw [h3]
          exact hK _ _ _ h4 h5 h6
        · rw [h3]
          refine Calls.mono h4 fun e w' he => ?_
          cases e with
          | returned x => obtain ⟨ρ', h4, h5, h6⟩ := he; exact hK _ _ _ h4 h5 h6
          | panicked c => exact he.elim
          | outgrown => exact he.elim
      · cases hr

theorem eTmp_put (d : Nat) (v : AV) (tm : Tm) (t : Nat) : eTmp t (putO (some d) v tm) = if t = d then v else eTmp t tm := by
  show orU ((tm.put d (some v)).get t) = _
  rw [get_put]
  split <;> rfl
theorem tmps_put {d : Nat} (x : Value) (hd : d < a.tmps.size) (t : Nat) : (a.put (some d) x).tmps.getD t Go.undef = if t = d then x else a.tmps.getD t Go.undef := by
  simp only [Act.put, Array.getD_eq_getD_getElem?, Array.getElem?_setIfInBounds]
  by_cases e : d = t
  · subst e; simp [hd]
  · rw [if_neg e, if_neg (Ne.symm e)]
theorem size_put (d : Option Nat) (x : Value) : (a.put d x).tmps.size = a.tmps.size := by cases d <;> simp [Act.put]
theorem defers_put (d : Option Nat) (x : Value) : (a.put d x).defers = a.defers := by cases d <;> rfl

/-- a frame's slots -/
def AR (E : Env) (ρ : Ren) (tm : Tm) (a : Act) : Prop := ∀ t, VR E ρ (eTmp t tm) (a.tmps.getD t Go.undef)
theorem AR.sees (h : AR E ρ tm a) : Sees E ρ ops o tm a := fun s _ => h s
theorem AR.put {ρ' : Ren} {x : Value} {d : Option Nat} (h : AR E ρ tm a) (hle : ρ.le ρ') (hx : VR E ρ' v x) (hd : ∀ t, d = some t → t < a.tmps.size) : AR E ρ' (putO d v tm) (a.put d x) := by
  cases d with
  | none => exact fun t => (h t).mono hle
  | some d =>
    intro t
    rw [eTmp_put, tmps_put x (hd d rfl)]
    split
    · exact hx
    · exact (h t).mono hle

/-- the operations in a given order -/
theorem wp_ops_given {Q : Exit → Act → World → Prop} (hF : FactsOK E fs) (hcall : CallOK P E call) {F : Fr} : ∀ (l : List Nat) (ρ : Ren) (tm : Tm) (S : St) (a : Act) (w : World), a.tmps.size = nt → AR E ρ tm a → HR E B ρ S w → (∀ i ∈ l, i < ops.size) →
    opsX (l.map fun i => compSi P nt ops i []) fs call tm S = .ok F →
    (∀ ρ' a' w', a'.tmps.size = nt → a'.defers = a.defers → AR E ρ' F.tm a' → HR E B ρ' F.st w' → Ext B ρ S w ρ' F.st w' → Q .normal a' w') → wpOps P ops Q l a w
  | [], ρ, tm, S, a, w, hsz, hA, hS, _, h, hQ => by
    cases h
    exact hQ ρ a w hsz rfl hA hS (Ext.refl B ρ S w)
  | i :: l, ρ, tm, S, a, w, hsz, hA, hS, hl, h, hQ => by
    have hi := hl i (by simp)
    have ho : ops[i]? = some ops[i] := Array.getElem?_eq_getElem hi
    generalize ops[i] = o at ho
    have h : stepX (compSi P nt ops i []) (opsX (l.map fun i => compSi P nt ops i [])) fs call tm S = .ok F := h
    have hci : compSi P nt ops i [] = compS P nt ops o [] := by simp only [compSi, ho]
    rw [hci] at h
    rcases compS_ok P nt ops o [] with ⟨hx, hchk⟩ | hb
    case inr => rw [hb] at h; exact absurd h bad_step
    unfold wpOps
    simp only [ho]
    rcases step_split h with ⟨h1, h2⟩ | ⟨h1, v, S', h2, h3⟩
    · rw [wanted_eq hx hA.sees h1]
      rw [hx.d] at h2
      exact wp_ops_given hF hcall l ρ _ S _ w (by rw [size_put]; exact hsz) (hA.put (Ren.le.refl ρ) (VR.undef E ρ) (fun t ht => hsz ▸ hx.lt t ht)) hS (fun j hj => hl j (by simp [hj])) h2
        fun ρ' a' w' q1 q2 => hQ ρ' a' w' q1 (q2.trans (defers_put _ _))
    · rw [wanted_eq hx hA.sees h1]
      rw [hx.d] at h3
      have hne : compOp P o.op ≠ .bad := fun e => by rw [hx.op, e] at h2; exact bad_run h2
      refine .inl (exec_op (ops := ops) hF hcall hS (compOp_some rfl hne) hA.sees (hx.op ▸ h2) fun ρ' x w' q1 q2 q3 => ?_)
      exact wp_ops_given hF hcall l ρ' _ S' _ w' (by rw [size_put]; exact hsz) (hA.put q3.le q1 (fun t ht => hsz ▸ hx.lt t ht)) q2 (fun j hj => hl j (by simp [hj])) (fin_split h3).2
        fun ρ2 a2 w2 r1 r2 r3 r4 r5 => hQ ρ2 a2 w2 r1 (r2.trans (defers_put _ _)) r3 r4 (q3.trans r5)
theorem map_range (f : Oper → XS) (g : Nat → XS) (h : ∀ i o, ops[i]? = some o → g i = f o) : ops.toList.map f = (List.range ops.size).map g := by
  refine List.ext_getElem? fun i => ?_
  rw [List.getElem?_map, List.getElem?_map, Array.getElem?_toList]
  by_cases hi : i < ops.size
  · rw [List.getElem?_range hi, Array.getElem?_eq_getElem hi]
    simp [h i _ (Array.getElem?_eq_getElem hi)]
  · rw [Array.getElem?_eq_none (by omega), List.getElem?_eq_none (by simp; omega)]
    rfl
end
end Go.Proofs.YtdimeaooekhkhaaGreat.AX
