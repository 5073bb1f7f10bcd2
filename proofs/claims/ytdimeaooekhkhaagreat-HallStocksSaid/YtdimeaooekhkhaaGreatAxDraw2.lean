/- Proved: a region that draws its order, to its end. No function of the program is walked here. -/
import Derived.Test.YtdimeaooekhkhaaGreatAxPlan
set_option linter.unusedVariables false
set_option linter.unusedSimpArgs false
namespace Go.Proofs.YtdimeaooekhkhaaGreat.AX
open Go.RowKit

section
variable {P : Program} {E : Env} {B nt : Nat} {ρ : Ren} {S S' : St} {w : World} {a : Act} {tm : Tm} {fs : List Fact} {call : CallT} {v : AV} {o : Oper} {xo : XOp} {ops : Array Oper}

theorem chkX_mem {l : List XK} (h : chkX fs call tm S l = true) {k : XK} (hk : k ∈ l) : chk1 fs call tm S k = true := by
  induction l with
  | nil => cases hk
  | cons x l ih =>
    obtain ⟨h1, h2⟩ := cnd_and (a := chk1 fs call tm S x) (b := chkX fs call tm S l) h
    rcases List.mem_cons.1 hk with rfl | hk
    · exact h1
    · exact ih h2 hk
theorem wantX_same {x : XS} {tm0 : Tm} (hx : XSok P nt ops o x) (hl : ∀ t ∈ o.looksAt ops, eTmp t tm0 = eTmp t tm) : wantX x.g tm0 = wantX x.g tm := by
  rcases hx.g with ⟨_, hxg⟩ | ⟨j, b, s, hg, hs, hxg⟩
  · rw [hxg]; rfl
  · rw [hxg]
    show wantV b (eTmp s tm0) = wantV b (eTmp s tm)
    rw [hl s (by simp [Oper.looksAt, hg, hs])]

/-- the one that comes next -/
theorem Inv.go {n0 : Nat} {L C : Array Bool} {U held : List Nat} {blk : Nat → Option Nat} (hF : FactsOK E fs) (hcall : CallOK P E call) (h1 : OneDst ops) (h : Inv P nt ops fs call E B n0 L C U held tm S a w ρ blk) {j : Nat}
    (hj : j ∈ Region.ready .any ops L) (hjC : C.getD j false = false) {kp : List Nat} (hkp : ∀ i ∈ held, i ∈ kp ∨ Rch ops j i) {ih : OpsT} {F : Fr}
    (hs : stepX (compSi P nt ops j (kp.map fun i => kOf (compSi P nt ops i []))) ih fs call tm S = .ok F) {K : Act → World → Prop} {Q : Exit → Act → World → Prop}
    (hK : ∀ ρ' a' w' tm' S', Inv P nt ops fs call E B n0 (L.setIfInBounds j true) (C.setIfInBounds j true) U kp tm' S' a' w' ρ' blk → ih fs call tm' S' = .ok F → Ext B ρ S w ρ' S' w' → a'.defers = a.defers → K a' w') :
    wpOp P ops Q j K a w := by
  obtain ⟨_, o, ho, hall⟩ := mem_ready.1 hj
  have hjlt : j < ops.size := (Array.getElem?_eq_some_iff.1 ho).1
  have hjL : j < L.size := by rw [h.sL]; exact hjlt
  have hjC' : j < C.size := by rw [h.sC]; exact hjlt
  generalize hch : (kp.map fun i => kOf (compSi P nt ops i [])) = chk at hs
  have hci : compSi P nt ops j chk = compS P nt ops o chk := by simp only [compSi, ho]
  rw [hci] at hs
  rcases compS_ok P nt ops o chk with ⟨hx, hchk⟩ | hb
  case inr => rw [hb] at hs; exact absurd hs bad_step
  have hjU : j ∉ U := fun hh => by rw [(h.done j).2 (.inr hh)] at hjC; cases hjC
  have hsee := h.sees hj ho
  have nowait : ∀ k ∈ U, waitsFor ops j k = false := fun k hk => by
    cases hw : waitsFor ops j k with
    | false => rfl
    | true => have := ready_waits hj hw; rw [h.todo k hk] at this; cases this
  have kept : ∀ k ∈ U, k ∈ held → k ∈ kp := fun k hk hh => by
    rcases hkp k hh with h2 | h2
    · exact h2
    · have := h.reach hj h2; rw [h.todo k hk] at this; cases this
  have oth : ∀ k ∈ U, ∀ ok, ops[k]? = some ok → ∀ d, o.dst = some d → d ∉ ok.looksAt ops := fun k hk ok hok d hd => by
    rcases h.free k hk ok hok j o ho hjC with hw | hap
    · rw [nowait k hk] at hw; cases hw
    · exact (Oper.apart_spec hap).2.2 d hd
  have keep : ∀ (v : AV) t, (∀ d, o.dst = some d → t ≠ d) → eTmp t (putO o.dst v tm) = eTmp t tm := fun v t hn => by
    cases hd : o.dst with
    | none => rfl
    | some d => rw [eTmp_put, if_neg (hn d hd)]
  have dk : ∀ (v : AV), ∀ k ∈ U, ∀ ok, ops[k]? = some ok → ∀ d, ok.dst = some d → eTmp d (putO o.dst v tm) = eTmp d tm := fun v k hk ok hok d hd =>
    keep v d fun d' hd' e => h1 k j ok o d hok ho (fun e' => hjU (e' ▸ hk)) hd (e ▸ hd')
  have core : ∀ (ρ' : Ren) (v : AV) (y : Value) (S' : St) (w' : World), VR E ρ' v y → HR E B ρ' S' w' → Ext B ρ S w ρ' S' w' → (S' = S ∨ chkX fs call (putO o.dst v tm) S' chk = true) →
      Inv P nt ops fs call E B n0 (L.setIfInBounds j true) (C.setIfInBounds j true) U kp (putO o.dst v tm) S' (a.put o.dst y) w' ρ' blk := by
    intro ρ' v y S' w' hy hR hE hck
    refine ⟨by simpa using h.sL, by simpa using h.sC, fun k => ?_, fun k hk => ?_, h.nodup, fun pre i post e k hk => ?_, fun k hk m hm => ?_, closed_set h.closedL hj hjL, fun k hk ok hok i oi hi hic => ?_, h.anti, fun k hk => ?_, h.inj, fun k hk n hn => Nat.lt_of_lt_of_le (h.lt k hk n hn) hE.nx, fun t ht => ?_, hR, fun k hk ok hok hrd => ?_, by rw [size_put]; exact h.size, Nat.le_trans h.base hE.nx⟩
    · rw [getD_set hjL, getD_set hjC']
      by_cases e : k = j
      · simp [e]
      · rw [if_neg e, if_neg e]; exact h.done k
    · rw [getD_set hjL, if_neg fun (e : k = j) => hjU (e ▸ hk)]; exact h.todo k hk
    · rcases h.order pre i post e k hk with h2 | h2
      · left; rw [getD_set hjL]; by_cases e : k = j
        · rw [if_pos e]
        · rw [if_neg e]; exact h2
      · exact .inr h2
    · rw [getD_set hjC'] at hk ⊢
      split
      · rfl
      · split at hk
        · rename_i e
          subst e
          exact (h.done m).2 (.inl (ready_waits hj hm))
        · exact h.closed k hk m hm
    · rw [getD_set hjC'] at hic
      split at hic
      · cases hic
      · exact h.free k hk ok hok i oi hi hic
    · obtain ⟨ok, xk, tmk, q1, q2, q3, q4⟩ := h.will k hk
      have look : ∀ t ∈ ok.looksAt ops, eTmp t tm = eTmp t (putO o.dst v tm) := fun t ht => (keep v t fun d hd e => oth k hk ok q1 d hd (e ▸ ht)).symm
      have q3' : ∀ t ∈ ok.looksAt ops, eTmp t tmk = eTmp t (putO o.dst v tm) := fun t ht => (q3 t ht).trans (look t ht)
      rcases q4 with ⟨q4, q5⟩ | ⟨q4, xo, v', q5, q6, q7⟩
      · exact ⟨ok, xk, tmk, q1, q2, q3', .inl ⟨q4, fun d hd => by rw [dk v k hk ok q1 d hd]; exact q5 d hd⟩⟩
      · have q6' : ∀ d, ok.dst = some d → eTmp d (putO o.dst v tm) = v' := fun d hd => by rw [dk v k hk ok q1 d hd]; exact q6 d hd
        rcases q7 with q7 | ⟨q7, q8⟩ | ⟨q7, S0, S1, kk, n, r1, r2, r3, r4, r5, r6, r7, r8⟩
        · exact ⟨ok, xk, tmk, q1, q2, q3', .inr ⟨q4, xo, v', q5, q6', .inl q7⟩⟩
        · rcases hck with rfl | hck
          · exact ⟨ok, xk, tmk, q1, q2, q3', .inr ⟨q4, xo, v', q5, q6', .inr (.inl ⟨q7, q8⟩)⟩⟩
          · -- it is read again
            have hop : compOp P ok.op = xo := by simp only [compOp, q5, Option.getD_some]
            obtain ⟨hds, hheld⟩ := h.helds k hk ok q1 (by rw [hop]; exact q7)
            obtain ⟨d, hd⟩ := Option.isSome_iff_exists.1 hds
            have hck1 : compSi P nt ops k [] = compS P nt ops ok [] := by simp only [compSi, q1]
            have hkx : XSok P nt ops ok (compS P nt ops ok []) := by
              rcases compS_ok P nt ops ok [] with ⟨hh, _⟩ | hb
              · exact hh
              · exfalso
                have hg := q2.g
                unfold compS at hb
                simp only [hd, if_pos (q2.lt d hd)] at hb
                rcases hg with ⟨hg, _⟩ | ⟨jj, bb, ss, hg, hss, _⟩
                · simp only [hg] at hb; cases hb
                · simp only [hg, hss] at hb; cases hb
            have hgx : (compS P nt ops ok []).g = xk.g := by
              rcases hkx.g with ⟨g1, g2⟩ | ⟨j1, b1, s1, g1, g2, g3⟩
              · rcases q2.g with ⟨g4, g5⟩ | ⟨j2, b2, s2, g4, g5, g6⟩
                · rw [g2, g5]
                · rw [g1] at g4; cases g4
              · rcases q2.g with ⟨g4, g5⟩ | ⟨j2, b2, s2, g4, g5, g6⟩
                · rw [g1] at g4; cases g4
                · rw [g1] at g4; cases g4; rw [g2] at g5; cases g5; rw [g3, g6]
            have hm : kOf (compSi P nt ops k []) ∈ chk := by
              rw [← hch]
              exact List.mem_map_of_mem (f := fun i => kOf (compSi P nt ops i [])) (kept k hk hheld)
            have hc1 := chkX_mem hck hm
            rw [hck1] at hc1
            unfold chk1 at hc1
            have hkg : (kOf (compS P nt ops ok [])).g = xk.g := hgx
            have hkd : (kOf (compS P nt ops ok [])).d = d := by show (compS P nt ops ok []).d.getD 0 = d; rw [hkx.d, hd]; rfl
            have hko : (kOf (compS P nt ops ok [])).op = xo := hkx.op.trans hop
            rw [hkg, hkd, hko] at hc1
            have hw2 : wantX xk.g (putO o.dst v tm) = .ok true := by rw [← wantX_same q2 q3']; exact q4
            rw [hw2] at hc1
            have hc1 : sameR (eTmp d (putO o.dst v tm)) (xo.run fs call (putO o.dst v tm) S') = true := (cnd_and (a := true) (b := sameR (eTmp d (putO o.dst v tm)) (xo.run fs call (putO o.dst v tm) S')) (by
              cases hh : sameR (eTmp d (putO o.dst v tm)) (xo.run fs call (putO o.dst v tm) S') with
              | true => rfl
              | false => rw [hh] at hc1; cases hc1)).2
            rw [q6' d hd] at hc1
            unfold sameR at hc1
            split at hc1
            · rename_i u T hrun
              have := sameV_true hc1
              subst this
              obtain ⟨rfl, _⟩ := reads_le (S2 := S') q7 (fun _ _ h => h) hrun
              exact ⟨ok, xk, putO o.dst v tm, q1, q2, fun _ _ => rfl, .inr ⟨hw2, xo, u, q5, q6', .inr (.inl ⟨q7, hrun⟩)⟩⟩
            · cases hc1
        · obtain ⟨e1, e2⟩ := hE.pend n r6 r8
          exact ⟨ok, xk, tmk, q1, q2, q3', .inr ⟨q4, xo, v', q5, q6', .inr (.inr ⟨q7, S0, S1, kk, n, r1, r2, r3, r4, e2.trans r5, Nat.lt_of_lt_of_le r6 hE.nx, r7, e1⟩)⟩⟩
    · cases hd : o.dst with
      | none =>
        rw [show eTmp t (putO none v tm) = eTmp t tm from rfl]
        exact (h.slots t ht).mono hE.le
      | some d =>
        rw [eTmp_put, tmps_put y (h.size ▸ hx.lt d hd)]
        split
        · exact hy
        · exact (h.slots t ht).mono hE.le
    · obtain ⟨p1, p2⟩ := h.helds k hk ok hok hrd
      exact ⟨p1, kept k hk p2⟩
  unfold wpOp
  simp only [ho]
  rcases step_split hs with ⟨h2, h3⟩ | ⟨h2, v, S', h3, h4⟩
  · rw [hx.d] at h3
    rw [wanted_eq hx hsee h2]
    exact hK ρ _ w _ S (core ρ undefA Go.undef S w (VR.undef E ρ) h.heap (Ext.refl B ρ S w) (.inl rfl)) h3 (Ext.refl B ρ S w) (defers_put _ _)
  · rw [hx.d, hchk] at h4
    rw [wanted_eq hx hsee h2]
    obtain ⟨h5, h6⟩ := fin_split h4
    rw [hx.op] at h3
    have hne : compOp P o.op ≠ .bad := fun e => by rw [e] at h3; exact bad_run h3
    exact .inl (exec_op (ops := ops) hF hcall h.heap (compOp_some rfl hne) hsee h3 fun ρ' x w' q1 q2 q3 => hK ρ' _ w' _ S' (core ρ' v x S' w' q1 q2 q3 (.inr h5)) h6 q3 (defers_put _ _))

/-! to the region's end -/
/-- how many are still to come -/
def togo (ops : Array Oper) (L : Array Bool) : Nat := (List.range ops.size).countP fun i => !L.getD i false
theorem countP_less {p q : Nat → Bool} {i : Nat} (hpq : ∀ j, p j = true → q j = true) (hp : p i = false) (hq : q i = true) : ∀ {l : List Nat}, i ∈ l → l.countP p < l.countP q
  | [], h => by cases h
  | x :: l, h => by
    have hle : l.countP p ≤ l.countP q := List.countP_mono_left fun y _ => hpq y
    rcases List.mem_cons.1 h with rfl | h
    · rw [List.countP_cons_of_neg (by simp [hp]), List.countP_cons_of_pos hq]; omega
    · have := countP_less hpq hp hq h
      by_cases hx : p x = true
      · rw [List.countP_cons_of_pos hx, List.countP_cons_of_pos (hpq x hx)]; omega
      · rw [List.countP_cons_of_neg hx]
        have : l.countP q ≤ (x :: l).countP q := by rw [List.countP_cons]; omega
        omega
theorem togo_less {L : Array Bool} {i : Nat} (hi : i < ops.size) (hs : L.size = ops.size) (hL : L.getD i false = false) : togo ops (L.setIfInBounds i true) < togo ops L := by
  refine countP_less (i := i) (fun j hj => ?_) ?_ ?_ (List.mem_range.2 hi)
  · rw [getD_set (by omega)] at hj
    split at hj
    · cases hj
    · exact hj
  · rw [getD_set (by omega), if_pos rfl]; rfl
  · rw [hL]; rfl
theorem togo_zero {L : Array Bool} (h : togo ops L ≤ 0) {i : Nat} (hi : i < ops.size) : L.getD i false = true := by
  have h0 : togo ops L = 0 := by omega
  have := List.countP_eq_zero.1 h0 i (List.mem_range.2 hi)
  simpa using this

section
variable {n0 : Nat} {L C : Array Bool} {U held : List Nat} {blk : Nat → Option Nat}
theorem Inv.here (h : Inv P nt ops fs call E B n0 L C U held tm S a w ρ blk) {i : Nat} (hi : i ∈ U) : i < ops.size := by
  obtain ⟨o, _, _, ho, _⟩ := h.will i hi
  exact (Array.getElem?_eq_some_iff.1 ho).1
theorem Inv.head (h : Inv P nt ops fs call E B n0 L C U held tm S a w ρ blk) {i : Nat} {post : List Nat} (e : U = i :: post) : i ∈ Region.ready .any ops L := by
  have hi : i ∈ U := by rw [e]; simp
  obtain ⟨o, _, _, ho, _⟩ := h.will i hi
  refine mem_ready.2 ⟨getD_ft (h.todo i hi) (by rw [h.sL]; exact h.here hi), o, ho, fun ed he hb => ?_⟩
  rcases h.order [] i post (by simpa using e) ed.on (waitsFor_iff.2 ⟨o, ho, ed, he, hb, rfl⟩) with h1 | h1
  · exact h1
  · cases h1
theorem Inv.readyC (h : Inv P nt ops fs call E B n0 L C U held tm S a w ρ blk) {i : Nat} (hi : i ∈ Region.ready .any ops L) (hU : i ∉ U) : i ∈ Region.ready .any ops C := by
  obtain ⟨h0, o, ho, hall⟩ := mem_ready.1 hi
  have hlt := (Array.getElem?_eq_some_iff.1 ho).1
  refine mem_ready.2 ⟨getD_ft ?_ (by rw [h.sC]; exact hlt), o, ho, fun ed he hb => (h.done _).2 (.inl (hall ed he hb))⟩
  cases hc : C.getD i false with
  | false => rfl
  | true =>
    rcases (h.done i).1 hc with h1 | h1
    · rw [(getD_tf h0).1] at h1; cases h1
    · exact absurd h1 hU
theorem Inv.readyL (h : Inv P nt ops fs call E B n0 L C U held tm S a w ρ blk) {i : Nat} (hi : i ∈ Region.ready .any ops C) (hU : U = []) : i ∈ Region.ready .any ops L := by
  obtain ⟨h0, o, ho, hall⟩ := mem_ready.1 hi
  have hlt := (Array.getElem?_eq_some_iff.1 ho).1
  refine mem_ready.2 ⟨getD_ft ?_ (by rw [h.sL]; exact hlt), o, ho, fun ed he hb => ?_⟩
  · cases hc : L.getD i false with
    | false => rfl
    | true => have := (h.done i).2 (.inl hc); rw [(getD_tf h0).1] at this; cases this
  · rcases (h.done _).1 (hall ed he hb) with h1 | h1
    · exact h1
    · rw [hU] at h1; cases h1
theorem Inv.noU (h : Inv P nt ops fs call E B n0 L C U held tm S a w ρ blk) (hr : Region.ready .any ops L = []) : U = [] := by
  cases hU : U with
  | nil => rfl
  | cons i post => have := h.head hU; rw [hr] at this; cases this
theorem Inv.noU0 (h : Inv P nt ops fs call E B n0 L C U held tm S a w ρ blk) (hz : togo ops L ≤ 0) : U = [] := by
  cases hU : U with
  | nil => rfl
  | cons i post =>
    have hi : i ∈ U := by rw [hU]; simp
    have h1 := togo_zero hz (h.here hi)
    rw [h.todo i hi] at h1
    cases h1
theorem ready0 (hz : togo ops L ≤ 0) : Region.ready .any ops L = [] := by
  cases hr : Region.ready .any ops L with
  | nil => rfl
  | cons i l =>
    obtain ⟨h0, o, ho, _⟩ := mem_ready.1 (show i ∈ Region.ready .any ops L by rw [hr]; simp)
    have h1 := togo_zero hz (Array.getElem?_eq_some_iff.1 ho).1
    rw [(getD_tf h0).1] at h1
    cases h1
end

theorem wp_any_plan {Q : Exit → Act → World → Prop} (hF : FactsOK E fs) (hcall : CallOK P E call) (h1 : OneDst ops) {ρ0 : Ren} {S0 : St} {w0 : World} {df : List Deferred} {F : Fr}
    (hQ : ∀ ρ' a' w', a'.tmps.size = nt → a'.defers = df → AR E ρ' F.tm a' → HR E B ρ' F.st w' → Ext B ρ0 S0 w0 ρ' F.st w' → Q .normal a' w') :
    ∀ (fuel : Nat) (C : Array Bool) (held : List Nat) (l : List XS), Plan P nt ops C held l → ∀ (L : Array Bool) (U : List Nat) (tm : Tm) (S : St) (a : Act) (w : World) (ρ : Ren) (blk : Nat → Option Nat), togo ops L ≤ fuel →
      Inv P nt ops fs call E B S0.next L C U held tm S a w ρ blk → Ext B ρ0 S0 w0 ρ S w → a.defers = df → opsX l fs call tm S = .ok F → wpAny P .any ops Q fuel L a w := by
  intro fuel
  induction fuel with
  | zero =>
    intro C held l hp
    induction hp with
    | done hr =>
      intro L U tm S a w ρ blk hz h hE hd ho
      cases ho
      have hU := h.noU0 hz
      exact ⟨ready0 hz, hQ ρ a w h.size hd (fun t => h.slots t fun i hi => by rw [hU] at hi; cases hi) h.heap hE⟩
    | take hi hk hf ha hl ihp =>
      intro L U tm S a w ρ blk hz h hE hd ho
      obtain ⟨tm', S', blk', q1, q2, q3, q4⟩ := h.take h1 hi hk hf ha ho
      exact ihp L _ tm' S' a w ρ blk' hz q2 ⟨hE.le, fun b hb hn => ⟨(hE.pend b hb hn).1, (q4 b (Nat.lt_of_lt_of_le hb hE.nx)).trans (hE.pend b hb hn).2⟩, Nat.le_trans hE.nx q3, hE.below⟩ hd q1
    | go keep hj hone hkp hl ihp =>
      intro L U tm S a w ρ blk hz h hE hd ho
      have := h.readyL hj (h.noU0 hz)
      rw [ready0 hz] at this
      cases this
  | succ fuel ihf =>
    -- one that was taken is done: the runner's order stays where it is
    have ex : ∀ {L C : Array Bool} {U held : List Nat} {tm : Tm} {S : St} {a : Act} {w : World} {ρ : Ren} {blk : Nat → Option Nat} {l : List XS}, togo ops L ≤ fuel + 1 →
        Inv P nt ops fs call E B S0.next L C U held tm S a w ρ blk → Ext B ρ0 S0 w0 ρ S w → a.defers = df → Plan P nt ops C held l → opsX l fs call tm S = .ok F →
        ∀ i ∈ Region.ready .any ops L, i ∈ U → wpOp P ops Q i (wpAny P .any ops Q fuel (L.setIfInBounds i true)) a w := by
      intro L C U held tm S a w ρ blk l hz h hE hd hp ho i hi hU
      refine h.exec hF h1 hi hU fun ρ' a' w' q1 q2 q3 q4 q5 => ?_
      have hlt := togo_less (L := L) (h.here hU) h.sL (h.todo i hU)
      exact ihf C held l hp _ _ tm S a' w' ρ' blk (by omega) q1 ⟨hE.le.trans q2, fun b hb hn => ⟨q3 b hb (hE.pend b hb hn).1, (hE.pend b hb hn).2⟩, hE.nx, hE.below.trans q4⟩ (q5.trans hd) ho
    -- it is over
    have fi : ∀ {L C : Array Bool} {U held : List Nat} {a : Act} {w : World} {ρ : Ren} {blk : Nat → Option Nat},
        Inv P nt ops fs call E B S0.next L C U held F.tm F.st a w ρ blk → Ext B ρ0 S0 w0 ρ F.st w → a.defers = df → Region.ready .any ops L = [] → Q .normal a w := by
      intro L C U held a w ρ blk h hE hd hr
      have hU := h.noU hr
      exact hQ ρ a w h.size hd (fun t => h.slots t fun i hi => by rw [hU] at hi; cases hi) h.heap hE
    intro C held l hp
    induction hp with
    | done hr =>
      intro L U tm S a w ρ blk hz h hE hd ho
      have ho0 := ho
      cases ho
      refine ⟨fi h hE hd, fun i hi => ?_⟩
      by_cases hU : i ∈ U
      · exact ex hz h hE hd (.done hr) ho0 i hi hU
      · have := h.readyC hi hU; rw [hr] at this; cases this
    | take hi hk hf ha hl ihp =>
      intro L U tm S a w ρ blk hz h hE hd ho
      obtain ⟨tm', S', blk', q1, q2, q3, q4⟩ := h.take h1 hi hk hf ha ho
      exact ihp L _ tm' S' a w ρ blk' hz q2 ⟨hE.le, fun b hb hn => ⟨(hE.pend b hb hn).1, (q4 b (Nat.lt_of_lt_of_le hb hE.nx)).trans (hE.pend b hb hn).2⟩, Nat.le_trans hE.nx q3, hE.below⟩ hd q1
    | go keep hj hone hkp hl ihp =>
      intro L U tm S a w ρ blk hz h hE hd ho
      refine ⟨fun hr => ?_, fun i hi => ?_⟩
      · have := h.readyL hj (h.noU hr)
        rw [hr] at this
        cases this
      · by_cases hU : i ∈ U
        · exact ex hz h hE hd (.go keep hj hone hkp hl) ho i hi hU
        · have hij := h.readyC hi hU
          have hiC := (getD_tf (mem_ready.1 hij).1).1
          have hij := hone i hij
          subst hij
          obtain ⟨h0, o, hoi, _⟩ := mem_ready.1 hi
          have hlt := togo_less (L := L) (Array.getElem?_eq_some_iff.1 hoi).1 h.sL (getD_tf h0).1
          exact h.go hF hcall h1 hi hiC hkp ho fun ρ' a' w' tm' S' q1 q2 q3 q4 => ihf _ _ _ hl _ U tm' S' a' w' ρ' blk (by omega) q1 (hE.trans q3) (q4.trans hd) q2

/-- a region -/
theorem wp_reg {Q : Exit → Act → World → Prop} (hm : P.follows .mixedOrders = true) (hF : FactsOK E fs) (hcall : CallOK P E call) {id : Nat} {draw : Bool} {l : List XS} {F : Fr} (hc : compReg P nt ops draw = .reg l)
    (hsz : a.tmps.size = nt) (hA : AR E ρ tm a) (hS : HR E B ρ S w) (h : opsX l fs call tm S = .ok F)
    (hQ : ∀ ρ' a' w', a'.tmps.size = nt → a'.defers = a.defers → AR E ρ' F.tm a' → HR E B ρ' F.st w' → Ext B ρ S w ρ' F.st w' → Q .normal a' w') : (Code.region id ops draw).wp P Q a w := by
  unfold compReg at hc
  split at hc
  · injection hc with hc
    subst hc
    rw [map_range (ops := ops) _ (fun i => compSi P nt ops i []) fun i o ho => by simp only [compSi, ho]] at h
    exact wp_region (wp_ops_given hF hcall _ ρ tm S a w hsz hA hS (fun i hi => List.mem_range.1 hi) h hQ)
  · obtain ⟨h1, hp⟩ := compReg_draw (P := P) (nt := nt) (ops := ops) hc
    · refine wp_region_any hm (wp_any_plan hF hcall h1 (ρ0 := ρ) (S0 := S) (w0 := w) (df := a.defers) hQ ops.size _ [] l hp _ [] tm S a w.drew ρ (fun _ => none) ?_ ?_ (Ext.drew B ρ S w) rfl h)
      · unfold togo; exact Nat.le_trans List.countP_le_length (by simp)
      · have hf : ∀ i, (Array.replicate ops.size false).getD i false = false := fun i => by
          rw [Array.getD_eq_getD_getElem?, Array.getElem?_replicate]
          split <;> rfl
        have no : ∀ {i : Nat}, i ∈ ([] : List Nat) → False := fun h => by cases h
        exact ⟨by simp, by simp, fun i => by simp, fun i hi => (no hi).elim, List.nodup_nil, fun pre i post e => by simp at e, fun i hi => (by rw [hf] at hi; cases hi), fun i hi => (by rw [hf] at hi; cases hi), fun i hi => (no hi).elim, fun i hi => (no hi).elim, fun i hi => (no hi).elim,
          fun i hi => (no hi).elim, fun i hi => (no hi).elim, fun t _ => hA t, hS.drew, fun i hi => (no hi).elim, hsz, Nat.le_refl _⟩
end
end Go.Proofs.YtdimeaooekhkhaaGreat.AX
