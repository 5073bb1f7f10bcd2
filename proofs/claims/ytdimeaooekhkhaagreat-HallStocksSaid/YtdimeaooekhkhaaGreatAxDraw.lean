/- Proved: a region that draws its order: whatever the order, it does what the runner reckons in its own. No function of the program is walked here. -/
import Derived.Test.YtdimeaooekhkhaaGreatAxReg
set_option linter.unusedVariables false
set_option linter.unusedSimpArgs false
namespace Go.Proofs.YtdimeaooekhkhaaGreat.AX
open Go.RowKit

section
variable {P : Program} {E : Env} {B nt : Nat} {ρ : Ren} {S S' : St} {w : World} {a : Act} {tm : Tm} {fs : List Fact} {call : CallT} {v : AV} {o : Oper} {xo : XOp} {ops : Array Oper}

theorem XOp.pr (xo : XOp) (h1 : xo.pure = true) (h2 : xo.reads = true) : False := by cases xo <;> first | exact absurd h1 Bool.false_ne_true | exact absurd h2 Bool.false_ne_true
theorem XOp.pn (xo : XOp) (h1 : xo.pure = true) (h2 : xo.news = true) : False := by cases xo <;> first | exact absurd h1 Bool.false_ne_true | exact absurd h2 Bool.false_ne_true
theorem XOp.rn (xo : XOp) (h1 : xo.reads = true) (h2 : xo.news = true) : False := by cases xo <;> first | exact absurd h1 Bool.false_ne_true | exact absurd h2 Bool.false_ne_true
theorem waitsFor_iff {j i : Nat} : waitsFor ops j i = true ↔ ∃ o, ops[j]? = some o ∧ ∃ e ∈ o.after, Region.binds .any e = true ∧ e.on = i := by
  unfold waitsFor
  cases h : ops[j]? with
  | none => simp
  | some o =>
    simp only [Array.any_eq_true', Bool.and_eq_true, beq_iff_eq, Option.some.injEq, exists_eq_left']
/-- who waits for one that is ready waits for what is done -/
theorem ready_waits {C : Array Bool} {i k : Nat} (h : i ∈ Region.ready .any ops C) (hw : waitsFor ops i k = true) : C.getD k false = true := by
  obtain ⟨_, o, ho, hall⟩ := mem_ready.1 h
  obtain ⟨o', ho', e, he, hb, rfl⟩ := waitsFor_iff.1 hw
  rw [ho] at ho'
  cases ho'
  exact hall e he hb
theorem getD_tf {C : Array Bool} {i : Nat} (h : C.getD i true = false) : C.getD i false = false ∧ i < C.size := by
  rcases Nat.lt_or_ge i C.size with hi | hi
  · simp only [Array.getD_eq_getD_getElem?, Array.getElem?_eq_getElem hi, Option.getD_some] at h ⊢
    exact ⟨h, hi⟩
  · simp [Array.getElem?_eq_none hi] at h
theorem getD_ft {C : Array Bool} {i : Nat} (h : C.getD i false = false) (hi : i < C.size) : C.getD i true = false := by
  simp only [Array.getD_eq_getD_getElem?, Array.getElem?_eq_getElem hi, Option.getD_some] at h ⊢
  exact h
theorem getD_set {C : Array Bool} {i : Nat} (hi : i < C.size) (j : Nat) : (C.setIfInBounds i true).getD j false = if j = i then true else C.getD j false := by
  by_cases e : i = j
  · subst e; simp [hi]
  · rw [getD_set_ne false e, if_neg (Ne.symm e)]

/-- no two write one slot -/
def OneDst (ops : Array Oper) : Prop := ∀ (i j : Nat) (oi oj : Oper) (d : Tmp), ops[i]? = some oi → ops[j]? = some oj → i ≠ j → oi.dst = some d → oj.dst ≠ some d
def Anti (ops : Array Oper) (i : Nat) : Prop := ∀ o d, ops[i]? = some o → o.dst = some d → ∀ k ok, ops[k]? = some ok → waitsFor ops k i = true ∨ d ∉ ok.looksAt ops
/-- it is nothing to another one that it is taken first -/
def Free (ops : Array Oper) (C : Array Bool) (i : Nat) : Prop := ∀ oi, ops[i]? = some oi → ∀ j oj, ops[j]? = some oj → j ≠ i → C.getD j false = false → waitsFor ops j i = true ∨ oi.apart ops oj = true

/-- one waits for another, or for one that does -/
inductive Rch (ops : Array Oper) : Nat → Nat → Prop where
  | one {j k : Nat} (h : waitsFor ops j k = true) : Rch ops j k
  | more {j m k : Nat} (h : Rch ops j m) (h2 : waitsFor ops m k = true) : Rch ops j k
/-- what will come of an operation that is taken and not yet done -/
def Will (P : Program) (nt : Nat) (ops : Array Oper) (fs : List Fact) (call : CallT) (tm : Tm) (S : St) (ρ : Ren) (n0 : Nat) (blk : Nat → Option Nat) (i : Nat) : Prop :=
  ∃ o x tm0, ops[i]? = some o ∧ XSok P nt ops o x ∧ (∀ t ∈ o.looksAt ops, eTmp t tm0 = eTmp t tm) ∧
    ((wantX x.g tm0 = .ok false ∧ ∀ d, o.dst = some d → eTmp d tm = undefA) ∨
     (wantX x.g tm0 = .ok true ∧ ∃ xo v, compOp? P o.op = some xo ∧ (∀ d, o.dst = some d → eTmp d tm = v) ∧
       ((xo.pure = true ∧ ∀ S2, xo.run fs call tm0 S2 = .ok (v, S2)) ∨
        (xo.reads = true ∧ xo.run fs call tm0 S = .ok (v, S)) ∨
        (xo.news = true ∧ ∃ S0 S1 k n, S0.next = n ∧ blk i = some n ∧ xo.run fs call tm0 S0 = .ok (v, S1) ∧ S1.heap.get n = some k ∧ S.heap.get n = some k ∧ n < S.next ∧ n0 ≤ n ∧ ρ n = none))))
/-- the actual order and the runner's: done is L, the runner has done C, of which U is still to come -/
structure Inv (P : Program) (nt : Nat) (ops : Array Oper) (fs : List Fact) (call : CallT) (E : Env) (B n0 : Nat) (L C : Array Bool) (U held : List Nat) (tm : Tm) (S : St) (a : Act) (w : World) (ρ : Ren) (blk : Nat → Option Nat) : Prop where
  sL : L.size = ops.size
  sC : C.size = ops.size
  done : ∀ i, C.getD i false = true ↔ L.getD i false = true ∨ i ∈ U
  todo : ∀ i ∈ U, L.getD i false = false
  nodup : U.Nodup
  order : ∀ pre i post, U = pre ++ i :: post → ∀ k, waitsFor ops i k = true → L.getD k false = true ∨ k ∈ pre
  closed : ∀ i, C.getD i false = true → ∀ k, waitsFor ops i k = true → C.getD k false = true
  closedL : ∀ i, L.getD i false = true → ∀ k, waitsFor ops i k = true → L.getD k false = true
  free : ∀ i ∈ U, ∀ oi, ops[i]? = some oi → ∀ j oj, ops[j]? = some oj → C.getD j false = false → waitsFor ops j i = true ∨ oi.apart ops oj = true
  anti : ∀ i ∈ U, Anti ops i
  will : ∀ i ∈ U, Will P nt ops fs call tm S ρ n0 blk i
  inj : ∀ i ∈ U, ∀ j ∈ U, ∀ n, blk i = some n → blk j = some n → i = j
  lt : ∀ i ∈ U, ∀ n, blk i = some n → n < S.next
  slots : ∀ t, (∀ i ∈ U, ∀ o, ops[i]? = some o → o.dst ≠ some t) → VR E ρ (eTmp t tm) (a.tmps.getD t Go.undef)
  heap : HR E B ρ S w
  helds : ∀ i ∈ U, ∀ o, ops[i]? = some o → (compOp P o.op).reads = true → o.dst.isSome = true ∧ i ∈ held
  size : a.tmps.size = nt
  base : n0 ≤ S.next

/-- what is ready sees what the runner says -/
theorem Inv.sees {n0 : Nat} {L C : Array Bool} {U held : List Nat} {blk : Nat → Option Nat} (h : Inv P nt ops fs call E B n0 L C U held tm S a w ρ blk) {i : Nat} (hi : i ∈ Region.ready .any ops L) (ho : ops[i]? = some o) : Sees E ρ ops o tm a := by
  intro s hs
  refine h.slots s fun k hk ok hok hd => ?_
  rcases h.anti k hk ok s hok hd i o ho with hw | hn
  · have h1 := ready_waits hi hw
    rw [h.todo k hk] at h1
    cases h1
  · exact hn hs

/-- whom one that is ready waits for is done, however far -/
theorem Inv.reach {n0 : Nat} {L C : Array Bool} {U held : List Nat} {blk : Nat → Option Nat} (h : Inv P nt ops fs call E B n0 L C U held tm S a w ρ blk) {j : Nat} (hj : j ∈ Region.ready .any ops L) {k : Nat} (hr : Rch ops j k) : L.getD k false = true := by
  induction hr with
  | one h1 => exact ready_waits hj h1
  | more _ h2 ih => exact h.closedL _ ih _ h2
theorem closed_set {L : Array Bool} (hc : ∀ i, L.getD i false = true → ∀ k, waitsFor ops i k = true → L.getD k false = true) {j : Nat} (hj : j ∈ Region.ready .any ops L) (hjL : j < L.size) :
    ∀ i, (L.setIfInBounds j true).getD i false = true → ∀ k, waitsFor ops i k = true → (L.setIfInBounds j true).getD k false = true := by
  intro i hi k hk
  rw [getD_set hjL] at hi ⊢
  split
  · rfl
  · split at hi
    · rename_i e; subst e; exact ready_waits hj hk
    · exact hc i hi k hk
theorem split_erase {U : List Nat} {i : Nat} (hn : U.Nodup) : ∀ {pre : List Nat} {j : Nat} {post : List Nat}, U.erase i = pre ++ j :: post → ∃ pre', (∃ post', U = pre' ++ j :: post') ∧ ∀ k, k ∈ pre' → k = i ∨ k ∈ pre := by
  induction U with
  | nil => intro pre j post h; simp at h
  | cons u U ih =>
    intro pre j post h
    by_cases e : u = i
    · subst e
      rw [List.erase_cons_head] at h
      exact ⟨u :: pre, ⟨post, by rw [h]; rfl⟩, fun k hk => by
        rcases List.mem_cons.1 hk with rfl | hk
        · exact .inl rfl
        · exact .inr hk⟩
    · rw [List.erase_cons_tail (by simpa using e)] at h
      cases pre with
      | nil => injection h with h1 h2; subst h1; exact ⟨[], ⟨U, rfl⟩, fun k hk => by cases hk⟩
      | cons p pre =>
        injection h with h1 h2
        subst h1
        obtain ⟨pre', ⟨post', h3⟩, h4⟩ := ih (List.nodup_cons.1 hn).2 h2
        exact ⟨u :: pre', ⟨post', by rw [h3]; rfl⟩, fun k hk => by
          rcases List.mem_cons.1 hk with rfl | hk
          · exact .inr (by simp)
          · rcases h4 k hk with h5 | h5
            · exact .inl h5
            · exact .inr (by simp [h5])⟩

/-- one that was taken is done -/
theorem Inv.exec {n0 : Nat} {L C : Array Bool} {U held : List Nat} {blk : Nat → Option Nat} (hF : FactsOK E fs) (h1 : OneDst ops) (h : Inv P nt ops fs call E B n0 L C U held tm S a w ρ blk) {i : Nat} (hi : i ∈ Region.ready .any ops L) (hU : i ∈ U)
    {K : Act → World → Prop} {Q : Exit → Act → World → Prop}
    (hK : ∀ ρ' a' w', Inv P nt ops fs call E B n0 (L.setIfInBounds i true) C (U.erase i) held tm S a' w' ρ' blk → ρ.le ρ' → (∀ b, b < n0 → ρ b = none → ρ' b = none) → Below B w w' → a'.defers = a.defers → K a' w') : wpOp P ops Q i K a w := by
  obtain ⟨o, x, tm0, ho, hx, hl, hw⟩ := h.will i hU
  have hsee := h.sees hi ho
  have hsee0 : Sees E ρ ops o tm0 a := fun s hs => by rw [hl s hs]; exact hsee s hs
  have hiL : i < L.size := by rw [h.sL]; exact (Array.getElem?_eq_some_iff.1 ho).1
  have mem : ∀ k, k ∈ U.erase i ↔ k ≠ i ∧ k ∈ U := fun k => List.Nodup.mem_erase_iff h.nodup
  -- what holds behind it, whatever it was
  have key : ∀ (ρ' : Ren) (y : Value) (w' : World), ρ.le ρ' → HR E B ρ' S w' → (∀ d, o.dst = some d → VR E ρ' (eTmp d tm) y) → (∀ k ∈ U, k ≠ i → ∀ n, blk k = some n → ρ n = none → ρ' n = none) →
      Inv P nt ops fs call E B n0 (L.setIfInBounds i true) C (U.erase i) held tm S (a.put o.dst y) w' ρ' blk := by
    intro ρ' y w' hle hR hy hp
    refine ⟨by simpa using h.sL, h.sC, fun k => ?_, fun k hk => ?_, h.nodup.erase i, fun pre j post e k hk => ?_, h.closed, closed_set h.closedL hi hiL, fun k hk => h.free k ((mem k).1 hk).2, fun k hk => h.anti k ((mem k).1 hk).2, fun k hk => ?_,
      fun j hj k hk => h.inj j ((mem j).1 hj).2 k ((mem k).1 hk).2, fun k hk => h.lt k ((mem k).1 hk).2, fun t ht => ?_, hR, fun k hk => h.helds k ((mem k).1 hk).2, by rw [size_put]; exact h.size, h.base⟩
    · rw [getD_set hiL, mem]
      by_cases e : k = i
      · subst e; simp [(h.done k).2 (.inr hU)]
      · simp only [if_neg e, ne_eq, e, not_false_eq_true, true_and]; exact h.done k
    · rw [getD_set hiL, if_neg ((mem k).1 hk).1]
      exact h.todo k ((mem k).1 hk).2
    · obtain ⟨pre', ⟨post', e2⟩, hpre⟩ := split_erase h.nodup e
      rw [getD_set hiL]
      rcases h.order pre' j post' e2 k hk with h2 | h2
      · left
        by_cases e : k = i
        · rw [if_pos e]
        · rw [if_neg e]; exact h2
      · rcases hpre k h2 with rfl | h3
        · left; rw [if_pos rfl]
        · exact .inr h3
    · obtain ⟨hne, hkU⟩ := (mem k).1 hk
      obtain ⟨ok, xk, tmk, q1, q2, q3, q4⟩ := h.will k hkU
      refine ⟨ok, xk, tmk, q1, q2, q3, ?_⟩
      rcases q4 with q4 | ⟨q4, xo, v, q5, q6, q7⟩
      · exact .inl q4
      · refine .inr ⟨q4, xo, v, q5, q6, ?_⟩
        rcases q7 with q7 | q7 | ⟨q7, S0, S1, kk, n, r1, r2, r3, r4, r5, r6, r7, r8⟩
        · exact .inl q7
        · exact .inr (.inl q7)
        · exact .inr (.inr ⟨q7, S0, S1, kk, n, r1, r2, r3, r4, r5, r6, r7, hp k hkU hne n r2 r8⟩)
    · cases hd : o.dst with
      | none => exact (h.slots t fun k hk ok hok => by
          by_cases e : k = i
          · subst e; rw [ho] at hok; cases hok; rw [hd]; simp
          · exact ht k ((mem k).2 ⟨e, hk⟩) ok hok).mono hle
      | some d =>
        rw [tmps_put y (h.size ▸ hx.lt d hd)]
        split
        · rename_i e; subst e; exact hy t hd
        · rename_i e
          exact (h.slots t fun k hk ok hok => by
            by_cases ek : k = i
            · subst ek; rw [ho] at hok; cases hok; rw [hd]; simpa using fun e' => e e'.symm
            · exact ht k ((mem k).2 ⟨ek, hk⟩) ok hok).mono hle
  unfold wpOp
  simp only [ho]
  rcases hw with ⟨hw, hu⟩ | ⟨hw, xo, v, hc, hv, hcls⟩
  · rw [wanted_eq hx hsee0 hw]
    exact hK ρ _ w (key ρ _ w (Ren.le.refl ρ) h.heap (fun d hd => by rw [hu d hd]; exact VR.undef E ρ) fun _ _ _ _ _ hn => hn) (Ren.le.refl ρ) (fun _ _ hn => hn) (Below.refl B w) (defers_put _ _)
  · rw [wanted_eq hx hsee0 hw]
    left
    unfold Oper.wp
    rcases hcls with ⟨hp, hr⟩ | ⟨hp, hr⟩ | ⟨hp, S0, S1, k, n, r1, r2, r3, r4, r5, r6, r7, r8⟩
    · rcases cls (f := a.eval) (w := w) hF (fun _ => h.heap) (hops hsee0) (fun _ => rfl) hc (hr S) with ⟨_, _, y, hy, hrun⟩ | ⟨hq, _⟩ | ⟨hq, _⟩ | ⟨hq, _⟩
      · rw [hrun w]
        exact hK ρ _ w (key ρ y w (Ren.le.refl ρ) h.heap (fun d hd => by rw [hv d hd]; exact hy) fun _ _ _ _ _ hn => hn) (Ren.le.refl ρ) (fun _ _ hn => hn) (Below.refl B w) (defers_put _ _)
      · exact (xo.pr hp hq).elim
      · exact (xo.pn hp hq).elim
      · rw [hp] at hq; cases hq
    · rcases cls (f := a.eval) (w := w) hF (fun _ => h.heap) (hops hsee0) (fun _ => rfl) hc hr with ⟨hq, _⟩ | ⟨_, _, y, hy, hrun⟩ | ⟨hq, _⟩ | ⟨_, hq, _⟩
      · exact (xo.pr hq hp).elim
      · rw [hrun]
        exact hK ρ _ w (key ρ y w (Ren.le.refl ρ) h.heap (fun d hd => by rw [hv d hd]; exact hy) fun _ _ _ _ _ hn => hn) (Ren.le.refl ρ) (fun _ _ hn => hn) (Below.refl B w) (defers_put _ _)
      · exact (xo.rn hp hq).elim
      · rw [hp] at hq; cases hq
    · rcases cls (B := B) (f := a.eval) (w := w) hF (fun hq => by rw [hp] at hq; cases hq) (hops hsee0) (fun _ => rfl) hc r3 with ⟨hq, _⟩ | ⟨hq, _⟩ | ⟨_, kk, c, obj, mk, q1, q2, q3, q4⟩ | ⟨_, _, hq, _⟩
      · exact (xo.pn hq hp).elim
      · exact (xo.rn hq hp).elim
      · rw [q3 w]
        have hkk : kk = k := by
          rw [q1, ← r1, get_new, if_pos rfl] at r4
          exact Option.some.inj r4
        subst hkk
        have hle := Ren.le_add (x := (w.heap.size, c)) r8
        have hR := h.heap.settle r6 r8 r5 c obj (q2 _ hle)
        refine hK _ _ _ (key _ (mk w.heap.size) (w.alloc obj) hle hR (fun d hd => by rw [hv d hd]; exact q4 _ _ (by rw [r1]; exact Ren.add_same _ _ _)) fun j hj hne m hm hn => ?_) hle (fun b hb hn => by rw [Ren.add_other (by omega)]; exact hn) ((Below.refl B w).alloc h.heap.base obj) (defers_put _ _)
        rw [Ren.add_other fun e => ?_]
        · exact hn
        · subst e; exact hne (h.inj j hj i hU m hm r2)
      · rw [hp] at hq; cases hq

/-- one more is taken -/
theorem Inv.take {n0 : Nat} {L C : Array Bool} {U held : List Nat} {blk : Nat → Option Nat} (h1 : OneDst ops) (h : Inv P nt ops fs call E B n0 L C U held tm S a w ρ blk) {i : Nat} (hr : i ∈ Region.ready .any ops C) (hkind : tkOf (compSi P nt ops i []) = true) (hfree : Free ops C i) (hanti : Anti ops i)
    {ih : OpsT} {F : Fr} (hs : stepX (compSi P nt ops i []) ih fs call tm S = .ok F) :
    ∃ tm' S' blk', ih fs call tm' S' = .ok F ∧ Inv P nt ops fs call E B n0 L (C.setIfInBounds i true) (U ++ [i]) (if (compSi P nt ops i []).op.reads then i :: held else held) tm' S' a w ρ blk' ∧
      S.next ≤ S'.next ∧ ∀ b, b < S.next → S'.heap.get b = S.heap.get b := by
  obtain ⟨hiC0, o, ho, hall⟩ := mem_ready.1 hr
  obtain ⟨hiC, hilt⟩ := getD_tf hiC0
  have hci : compSi P nt ops i [] = compS P nt ops o [] := by simp only [compSi, ho]
  unfold tkOf at hkind
  rw [hci] at hs hkind ⊢
  rcases compS_ok P nt ops o [] with ⟨hx, hchk⟩ | hb
  case inr => rw [hb] at hs; exact absurd hs bad_step
  have hnot : ¬(L.getD i false = true ∨ i ∈ U) := fun hh => by rw [(h.done i).2 hh] at hiC; cases hiC
  have hiU : i ∉ U := fun hh => hnot (.inr hh)
  have own : ∀ d, o.dst = some d → d ∉ o.looksAt ops := fun d hd => by
    rcases hanti o d ho hd i o ho with hw | hn
    · rw [ready_waits hr hw] at hiC; cases hiC
    · exact hn
  have oth : ∀ k ∈ U, ∀ ok, ops[k]? = some ok → ∀ d, o.dst = some d → d ∉ ok.looksAt ops := fun k hk ok hok d hd => by
    rcases hanti o d ho hd k ok hok with hw | hn
    · rw [h.closed k ((h.done k).2 (.inr hk)) i hw] at hiC; cases hiC
    · exact hn
  have keep : ∀ (v : AV) t, (∀ d, o.dst = some d → t ≠ d) → eTmp t (putO o.dst v tm) = eTmp t tm := fun v t hn => by
    cases hd : o.dst with
    | none => rfl
    | some d => rw [eTmp_put, if_neg (hn d hd)]
  have at_ : ∀ (v : AV) d, o.dst = some d → eTmp d (putO o.dst v tm) = v := fun v d hd => by rw [hd, eTmp_put, if_pos rfl]
  have core : ∀ (β : Option Nat) (v : AV) (S' : St), S.le S' → S.next ≤ S'.next → HR E B ρ S' w → (∀ n, β = some n → n = S.next ∧ n < S'.next) →
      ((wantX (compS P nt ops o []).g tm = .ok false ∧ v = undefA) ∨ (wantX (compS P nt ops o []).g tm = .ok true ∧ ∃ xo, compOp? P o.op = some xo ∧
        ((xo.pure = true ∧ ∀ S2, xo.run fs call tm S2 = .ok (v, S2)) ∨ (xo.reads = true ∧ xo.run fs call tm S' = .ok (v, S')) ∨
          (xo.news = true ∧ ∃ S0 S1 k n, S0.next = n ∧ β = some n ∧ xo.run fs call tm S0 = .ok (v, S1) ∧ S1.heap.get n = some k ∧ S'.heap.get n = some k ∧ n < S'.next ∧ n0 ≤ n ∧ ρ n = none)))) →
      Inv P nt ops fs call E B n0 L (C.setIfInBounds i true) (U ++ [i]) (if (compS P nt ops o []).op.reads then i :: held else held) (putO o.dst v tm) S' a w ρ (fun j => if j = i then β else blk j) := by
    intro β v S' hle hnx hR hβ hwill
    have mem : ∀ k, k ∈ U ++ [i] ↔ k ∈ U ∨ k = i := fun k => by simp
    have bo : ∀ k ∈ U, (if k = i then β else blk k) = blk k := fun k hk => if_neg fun (e : k = i) => hiU (e ▸ hk)
    refine ⟨h.sL, by simpa using h.sC, fun k => ?_, fun k hk => ?_, ?_, fun pre j post e k hk => ?_, fun k hk m hm => ?_, h.closedL, fun k hk ok hok j oj hj hjc => ?_, fun k hk => ?_, fun k hk => ?_, fun j hj k hk n hn hn' => ?_, fun k hk n hn => ?_, fun t ht => ?_, hR, fun k hk ok hok hrd => ?_, h.size, Nat.le_trans h.base hnx⟩
    · rw [getD_set hilt, mem]
      by_cases e : k = i
      · simp [e]
      · rw [if_neg e, h.done k]; simp [e]
    · rcases (mem k).1 hk with hk | rfl
      · exact h.todo k hk
      · cases hl : L.getD k false with
        | false => rfl
        | true => exact absurd (.inl hl) hnot
    · rw [List.nodup_append]
      exact ⟨h.nodup, by simp, fun x hx y hy e => by simp at hy; subst hy; subst e; exact hiU hx⟩
    · have last : waitsFor ops i k = true → L.getD k false = true ∨ k ∈ U := fun hw => (h.done k).1 (ready_waits hr hw)
      rcases List.append_eq_append_iff.1 e with ⟨as, h2, h3⟩ | ⟨cs, h2, h3⟩
      · cases as with
        | nil => injection h3 with h4 h5; subst h4; rw [h2, List.append_nil]; exact last hk
        | cons x as => injection h3 with h4 h5; simp at h5
      · cases cs with
        | nil => injection h3 with h4 h5; subst h4; rw [List.append_nil] at h2; subst h2; exact last hk
        | cons x cs => injection h3 with h4 h5; subst h4; exact h.order pre j cs h2 k hk
    · rw [getD_set hilt]
      split
      · rfl
      · rw [getD_set hilt] at hk
        split at hk
        · rename_i e; subst e; exact ready_waits hr hm
        · exact h.closed k hk m hm
    · rw [getD_set hilt] at hjc
      split at hjc
      · cases hjc
      · rename_i hne
        rcases (mem k).1 hk with hk | rfl
        · exact h.free k hk ok hok j oj hj hjc
        · rw [ho] at hok
          cases hok
          exact hfree o ho j oj hj hne hjc
    · rcases (mem k).1 hk with hk | rfl
      · exact h.anti k hk
      · exact hanti
    · rcases (mem k).1 hk with hk | rfl
      · obtain ⟨ok, xk, tmk, q1, q2, q3, q4⟩ := h.will k hk
        have hki : k ≠ i := fun e => hiU (e ▸ hk)
        have hdk : ∀ d, ok.dst = some d → eTmp d (putO o.dst v tm) = eTmp d tm := fun d hd => keep v d fun d' hd' e => h1 k i ok o d q1 ho hki hd (e ▸ hd')
        refine ⟨ok, xk, tmk, q1, q2, fun t ht => by rw [keep v t fun d hd e => oth k hk ok q1 d hd (e ▸ ht)]; exact q3 t ht, ?_⟩
        rcases q4 with ⟨q4, q5⟩ | ⟨q4, xo, v', q5, q6, q7⟩
        · exact .inl ⟨q4, fun d hd => by rw [hdk d hd]; exact q5 d hd⟩
        · refine .inr ⟨q4, xo, v', q5, fun d hd => by rw [hdk d hd]; exact q6 d hd, ?_⟩
          rcases q7 with q7 | ⟨q7, q8⟩ | ⟨q7, S0, S1, kk, n, r1, r2, r3, r4, r5, r6, r7, r8⟩
          · exact .inl q7
          · exact .inr (.inl ⟨q7, (reads_le q7 hle q8).2⟩)
          · exact .inr (.inr ⟨q7, S0, S1, kk, n, r1, (bo k hk).trans r2, r3, r4, hle _ _ r5, Nat.lt_of_lt_of_le r6 hnx, r7, r8⟩)
      · refine ⟨o, _, tm, ho, hx, fun t ht => (keep v t fun d hd e => own d hd (e ▸ ht)).symm, ?_⟩
        rcases hwill with ⟨q1, rfl⟩ | ⟨q1, xo, q2, q3⟩
        · exact .inl ⟨q1, fun d hd => at_ _ d hd⟩
        · refine .inr ⟨q1, xo, v, q2, fun d hd => at_ _ d hd, ?_⟩
          simpa using q3
    · have hn : (if j = i then β else blk j) = some n := hn
      have hn' : (if k = i then β else blk k) = some n := hn'
      rcases (mem j).1 hj with hjU | hji
      · rcases (mem k).1 hk with hkU | hki
        · rw [bo j hjU] at hn; rw [bo k hkU] at hn'; exact h.inj j hjU k hkU n hn hn'
        · rw [bo j hjU] at hn; rw [if_pos hki] at hn'
          have := (hβ n hn').1; have := h.lt j hjU n hn; omega
      · rcases (mem k).1 hk with hkU | hki
        · rw [if_pos hji] at hn; rw [bo k hkU] at hn'
          have := (hβ n hn).1; have := h.lt k hkU n hn'; omega
        · rw [hji, hki]
    · have hn : (if k = i then β else blk k) = some n := hn
      rcases (mem k).1 hk with hkU | hki
      · rw [bo k hkU] at hn; exact Nat.lt_of_lt_of_le (h.lt k hkU n hn) hnx
      · rw [if_pos hki] at hn; exact (hβ n hn).2
    · rw [keep v t fun d hd e => ht i ((mem i).2 (.inr rfl)) o ho (e ▸ hd)]
      exact h.slots t fun k hk => ht k ((mem k).2 (.inl hk))
    · rw [hx.op]
      rcases (mem k).1 hk with hk | rfl
      · obtain ⟨q1, q2⟩ := h.helds k hk ok hok hrd
        exact ⟨q1, by split <;> simp [q2]⟩
      · rw [ho] at hok
        cases hok
        rw [hrd]
        refine ⟨?_, by simp⟩
        rw [hx.op, hx.d] at hkind
        simp only [Bool.or_eq_true, Bool.and_eq_true] at hkind
        rcases hkind with hkind | hkind
        · exact (XOp.pr _ hkind hrd).elim
        · exact hkind.2
  rcases step_split hs with ⟨h2, h3⟩ | ⟨h2, v, S', h3, h4⟩
  · rw [hx.d] at h3
    exact ⟨_, _, _, h3, core none undefA S (fun _ _ h => h) (Nat.le_refl _) h.heap (fun _ e => by cases e) (.inl ⟨h2, rfl⟩), Nat.le_refl _, fun _ _ => rfl⟩
  · rw [hx.d] at h4
    have h4 := (fin_split h4).2
    rw [hx.op] at h3 hkind
    have hne : compOp P o.op ≠ .bad := fun e => by rw [e] at h3; exact bad_run h3
    have hc := compOp_some rfl hne
    simp only [Bool.or_eq_true, Bool.and_eq_true] at hkind
    rcases hkind with hk | ⟨hk | hk, _⟩
    · obtain ⟨rfl, hp⟩ := pure_par hk fs call tm S v S' h3
      exact ⟨_, _, _, h4, core none v S' (fun _ _ h => h) (Nat.le_refl _) h.heap (fun _ e => by cases e) (.inr ⟨h2, _, hc, .inl ⟨hk, hp⟩⟩), Nat.le_refl _, fun _ _ => rfl⟩
    · obtain ⟨rfl, hp⟩ := reads_le (S2 := S) hk (fun _ _ h => h) h3
      exact ⟨_, _, _, h4, core none v S' (fun _ _ h => h) (Nat.le_refl _) h.heap (fun _ e => by cases e) (.inr ⟨h2, _, hc, .inr (.inl ⟨hk, h3⟩)⟩), Nat.le_refl _, fun _ _ => rfl⟩
    · obtain ⟨k, rfl⟩ := news_new hk h3
      have hg : ∀ b, b < S.next → (S.new k).heap.get b = S.heap.get b := fun b hb => by rw [get_new, if_neg (by omega)]
      refine ⟨_, _, _, h4, core (some S.next) v (S.new k) (fun b kk hb => by rw [hg b (h.heap.fresh b kk hb)]; exact hb) (by rw [next_new]; omega) (h.heap.newPend k) (fun n e => by cases e; exact ⟨rfl, by rw [next_new]; omega⟩)
        (.inr ⟨h2, _, hc, .inr (.inr ⟨hk, S, S.new k, k, S.next, rfl, rfl, h3, by rw [get_new, if_pos rfl], by rw [get_new, if_pos rfl], by rw [next_new]; omega, h.base, h.heap.next_none⟩)⟩), by rw [next_new]; omega, hg⟩
end
end Go.Proofs.YtdimeaooekhkhaaGreat.AX
