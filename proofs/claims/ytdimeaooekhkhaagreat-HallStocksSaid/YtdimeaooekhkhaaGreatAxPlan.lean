/- Proved: the order that is laid out for a region that draws its own is one that serves. No function of the program is walked here. -/
import Derived.Test.YtdimeaooekhkhaaGreatAxDraw
set_option linter.unusedVariables false
set_option linter.unusedSimpArgs false
namespace Go.Proofs.YtdimeaooekhkhaaGreat.AX
open Go.RowKit

section
variable {P : Program} {nt : Nat} {ops : Array Oper}
/-- an order that serves: what is taken ahead may be; else there is one alone that comes -/
inductive Plan (P : Program) (nt : Nat) (ops : Array Oper) : Array Bool → List Nat → List XS → Prop where
  | done {C : Array Bool} {held : List Nat} (h : Region.ready .any ops C = []) : Plan P nt ops C held []
  | take {C : Array Bool} {held : List Nat} {l : List XS} {i : Nat} (h : i ∈ Region.ready .any ops C) (hk : tkOf (compSi P nt ops i []) = true) (hf : Free ops C i) (ha : Anti ops i)
      (hl : Plan P nt ops (C.setIfInBounds i true) (if (compSi P nt ops i []).op.reads then i :: held else held) l) : Plan P nt ops C held (compSi P nt ops i [] :: l)
  | go {C : Array Bool} {held : List Nat} {l : List XS} {j : Nat} (keep : List Nat) (h : j ∈ Region.ready .any ops C) (h1 : ∀ i ∈ Region.ready .any ops C, i = j) (hk : ∀ i ∈ held, i ∈ keep ∨ Rch ops j i)
      (hl : Plan P nt ops (C.setIfInBounds j true) keep l) : Plan P nt ops C held (compSi P nt ops j (keep.map fun i => kOf (compSi P nt ops i [])) :: l)

/-! masks -/
theorem bit_eq (m i : Nat) : bit m i = m.testBit i := by
  show Nat.beq ((m >>> i) &&& 1) 1 = _
  rw [Nat.testBit, Nat.and_comm 1, Nat.and_one_is_mod]
  have : (m >>> i) % 2 = 0 ∨ (m >>> i) % 2 = 1 := by omega
  rcases this with h | h <;> rw [h] <;> rfl
theorem maskOf_bit : ∀ (l : List Nat) (i : Nat), (maskOf l).testBit i = true ↔ i ∈ l
  | [], i => by
    show (0 : Nat).testBit i = true ↔ _
    simp
  | a :: l, i => by
    show ((1 <<< a) ||| maskOf l).testBit i = true ↔ _
    rw [Nat.testBit_or, Bool.or_eq_true, maskOf_bit l i, Nat.one_shiftLeft, Nat.testBit_two_pow, decide_eq_true_eq, List.mem_cons]
    constructor
    · rintro (h | h)
      · exact .inl h.symm
      · exact .inr h
    · rintro (h | h)
      · exact .inl h.symm
      · exact .inr h
theorem land_zero {m d : Nat} (h : Nat.beq (Nat.land m d) 0 = true) (i : Nat) : ¬(m.testBit i = true ∧ d.testBit i = true) := fun ⟨h1, h2⟩ => by
  have h0 : m &&& d = 0 := Nat.eq_of_beq_eq_true h
  have := congrArg (Nat.testBit · i) h0
  simp [h1, h2] at this
theorem land_sub {w m : Nat} : Nat.beq (Nat.land w m) w = true ↔ ∀ i, w.testBit i = true → m.testBit i = true := by
  constructor
  · intro h i hi
    have h0 : w &&& m = w := Nat.eq_of_beq_eq_true h
    have := congrArg (Nat.testBit · i) h0
    simpa [hi] using this
  · intro h
    have h0 : w &&& m = w := Nat.eq_of_testBit_eq fun i => by
      rw [Nat.testBit_and]
      cases hw : w.testBit i with
      | false => rfl
      | true => rw [h i hw]; rfl
    show Nat.beq (w &&& m) w = true
    rw [h0]
    exact Nat.beq_refl w
theorem dstMask_bit {o : Oper} {d : Nat} : (dstMask o).testBit d = true ↔ o.dst = some d := by
  unfold dstMask
  cases h : o.dst with
  | none => simp
  | some e =>
    show (1 <<< e).testBit d = true ↔ _
    rw [Nat.one_shiftLeft, Nat.testBit_two_pow, decide_eq_true_eq]
    simp

/-- what the masks tell of an operation -/
structure PIok (P : Program) (nt : Nat) (ops : Array Oper) (p : PI) (o : Oper) : Prop where
  at_ : ops[p.i]? = some o
  w : ∀ k, p.w.testBit k = true ↔ waitsFor ops p.i k = true
  l : ∀ t, p.l.testBit t = true ↔ t ∈ o.looksAt ops
  d : ∀ t, p.d.testBit t = true ↔ o.dst = some t
  tk : p.tk = tkOf (compSi P nt ops p.i [])
  rd : p.rd = (compSi P nt ops p.i []).op.reads
theorem afters_mem {o : Oper} {k i : Nat} (h : ops[i]? = some o) : k ∈ afters o ↔ waitsFor ops i k = true := by
  rw [waitsFor_iff]
  unfold afters
  simp only [List.mem_map, List.mem_filter]
  constructor
  · rintro ⟨e, ⟨h1, h2⟩, rfl⟩
    exact ⟨o, h, e, by simpa using h1, h2, rfl⟩
  · rintro ⟨o', h', e, h1, h2, rfl⟩
    rw [h] at h'
    cases h'
    exact ⟨e, ⟨by simpa using h1, h2⟩, rfl⟩
theorem mkPI_eq {β : Type} (i : Nat) (o : Oper) (f : PI → β) : mkPI P nt ops i o f = f ⟨i, maskOf (afters o), maskOf (o.looksAt ops), dstMask o, tkOf (compS P nt ops o []), (compS P nt ops o []).op.reads⟩ := by
  simp only [mkPI, seqN_eq, seqB_eq]
theorem infos_ok : ∀ (l : List Oper) (i : Nat), (∀ j, l[j]? = ops[i + j]?) → (∀ p ∈ infos P nt ops i l, ∃ o, PIok P nt ops p o) ∧ (∀ k o, i ≤ k → ops[k]? = some o → ∃ p ∈ infos P nt ops i l, p.i = k)
  | [], i, h => by
    refine ⟨?_, fun k o hk ho => ?_⟩
    · intro p hp; cases hp
    have := h (k - i)
    rw [show i + (k - i) = k from by omega, ho] at this
    cases this
  | o :: l, i, h => by
    have e : infos P nt ops i (o :: l) = ⟨i, maskOf (afters o), maskOf (o.looksAt ops), dstMask o, tkOf (compS P nt ops o []), (compS P nt ops o []).op.reads⟩ :: infos P nt ops (i + 1) l := by
      show mkPI P nt ops i o (fun p => seqN (i + 1) fun j => seqL (infos P nt ops j l) fun r => p :: r) = _
      rw [mkPI_eq, seqN_eq, seqL_eq]
    have ho : ops[i]? = some o := by have := h 0; simpa using this.symm
    obtain ⟨h1, h2⟩ := infos_ok l (i + 1) fun j => by have := h (j + 1); rw [List.getElem?_cons_succ] at this; rw [this]; congr 1; omega
    rw [e]
    have hci : compSi P nt ops i [] = compS P nt ops o [] := by simp only [compSi, ho]
    refine ⟨fun p hp => ?_, fun k o' hk hok => ?_⟩
    · rcases List.mem_cons.1 hp with rfl | hp
      · exact ⟨o, ho, fun k => by rw [maskOf_bit]; exact afters_mem ho, fun t => maskOf_bit _ t, fun t => dstMask_bit, by rw [hci], by rw [hci]⟩
      · exact h1 p hp
    · by_cases e : k = i
      · subst e; exact ⟨_, List.mem_cons_self, rfl⟩
      · obtain ⟨p, hp, hpk⟩ := h2 k o' (by omega) hok
        exact ⟨p, List.mem_cons_of_mem _ hp, hpk⟩
structure InfosOK (P : Program) (nt : Nat) (ops : Array Oper) (I : List PI) : Prop where
  ok : ∀ p ∈ I, ∃ o, PIok P nt ops p o
  all : ∀ k o, ops[k]? = some o → ∃ p ∈ I, p.i = k
theorem infos_all : InfosOK P nt ops (infos P nt ops 0 ops.toList) := by
  obtain ⟨h1, h2⟩ := infos_ok (P := P) (nt := nt) (ops := ops) ops.toList 0 fun j => by rw [Array.getElem?_toList, Nat.zero_add]
  exact ⟨h1, fun k o => h2 k o (Nat.zero_le k)⟩
theorem infos_index : ∀ (l : List Oper) (i : Nat), (infos P nt ops i l).map (·.i) = List.range' i l.length
  | [], i => rfl
  | o :: l, i => by
    have e : infos P nt ops i (o :: l) = ⟨i, maskOf (afters o), maskOf (o.looksAt ops), dstMask o, tkOf (compS P nt ops o []), (compS P nt ops o []).op.reads⟩ :: infos P nt ops (i + 1) l := by
      show mkPI P nt ops i o (fun p => seqN (i + 1) fun j => seqL (infos P nt ops j l) fun r => p :: r) = _
      rw [mkPI_eq, seqN_eq, seqL_eq]
    rw [e, List.map_cons, infos_index l (i + 1), List.length_cons, List.range'_succ]
theorem oneDst_pair : ∀ {I : List PI} {m : Nat}, oneDst m I = true → (∀ p ∈ I, ∀ t, ¬(m.testBit t = true ∧ p.d.testBit t = true)) ∧ I.Pairwise fun p q => ∀ t, ¬(p.d.testBit t = true ∧ q.d.testBit t = true)
  | [], m, _ => by
    refine ⟨?_, List.Pairwise.nil⟩
    intro p hp; cases hp
  | p :: I, m, h => by
    have h : cnd (Nat.beq (Nat.land m p.d) 0) (seqN (Nat.lor m p.d) fun m => oneDst m I) false = true := h
    obtain ⟨h1, h2⟩ := cnd_and h
    rw [seqN_eq] at h2
    obtain ⟨h3, h4⟩ := oneDst_pair h2
    have hor : ∀ t, (Nat.lor m p.d).testBit t = (m.testBit t || p.d.testBit t) := fun t => Nat.testBit_or m p.d t
    refine ⟨fun q hq t ht => ?_, List.Pairwise.cons (fun q hq t ht => h3 q hq t ⟨by rw [hor, ht.1, Bool.or_true], ht.2⟩) h4⟩
    rcases List.mem_cons.1 hq with rfl | hq
    · exact land_zero h1 t ht
    · exact h3 q hq t ⟨by rw [hor, ht.1, Bool.true_or], ht.2⟩
theorem pair_sym : ∀ {I : List PI}, I.Pairwise (fun p q => ∀ t, ¬(p.d.testBit t = true ∧ q.d.testBit t = true)) → ∀ x ∈ I, ∀ y ∈ I, x ≠ y → ∀ t, ¬(x.d.testBit t = true ∧ y.d.testBit t = true)
  | [], _, x, hx, _, _, _, _ => nomatch hx
  | p :: I, h, x, hx, y, hy, hne, t => fun ht => by
    obtain ⟨h1, h2⟩ := List.pairwise_cons.1 h
    rcases List.mem_cons.1 hx with ex | hx'
    · rcases List.mem_cons.1 hy with ey | hy'
      · exact hne (ex.trans ey.symm)
      · subst ex; exact h1 y hy' t ht
    · rcases List.mem_cons.1 hy with ey | hy'
      · subst ey; exact h1 x hx' t ⟨ht.2, ht.1⟩
      · exact pair_sym h2 x hx' y hy' hne t ht
theorem oneDst_spec (h : oneDst 0 (infos P nt ops 0 ops.toList) = true) : OneDst ops := by
  intro i j oi oj d hi hj hne h1 h2
  have hI := infos_all (P := P) (nt := nt) (ops := ops)
  obtain ⟨p, hp, hpi⟩ := hI.all i oi hi
  obtain ⟨q, hq, hqj⟩ := hI.all j oj hj
  obtain ⟨op, hop⟩ := hI.ok p hp
  obtain ⟨oq, hoq⟩ := hI.ok q hq
  have e1 := hop.at_
  rw [hpi, hi] at e1
  cases e1
  have e2 := hoq.at_
  rw [hqj, hj] at e2
  cases e2
  have hpq : p ≠ q := fun e => hne (by rw [← hpi, ← hqj, e])
  have hpw := (oneDst_pair h).2
  have hsym : ∀ x ∈ infos P nt ops 0 ops.toList, ∀ y ∈ infos P nt ops 0 ops.toList, x ≠ y → ∀ t, ¬(x.d.testBit t = true ∧ y.d.testBit t = true) := pair_sym hpw
  exact hsym p hp q hq hpq d ⟨(hop.d d).2 h1, (hoq.d d).2 h2⟩
/-- a mask tells what is done -/
def MaskOf (ops : Array Oper) (m : Nat) (C : Array Bool) : Prop := C.size = ops.size ∧ ∀ i, m.testBit i = true ↔ C.getD i false = true
theorem MaskOf.no {m : Nat} {C : Array Bool} (hm : MaskOf ops m C) {i : Nat} : m.testBit i = false ↔ C.getD i false = false := by
  have := hm.2 i
  cases h1 : m.testBit i <;> cases h2 : C.getD i false <;> simp_all
theorem MaskOf.set {m : Nat} {C : Array Bool} (hm : MaskOf ops m C) {i : Nat} (hi : i < ops.size) : MaskOf ops (Nat.lor m (Nat.shiftLeft 1 i)) (C.setIfInBounds i true) := by
  refine ⟨by simpa using hm.1, fun k => ?_⟩
  rw [getD_set (by rw [hm.1]; exact hi)]
  show (m ||| (1 <<< i)).testBit k = true ↔ _
  rw [Nat.testBit_or, Nat.one_shiftLeft, Nat.testBit_two_pow, Bool.or_eq_true, decide_eq_true_eq, hm.2 k]
  by_cases e : k = i
  · simp [e]
  · rw [if_neg e]
    constructor
    · rintro (h | h)
      · exact h
      · exact absurd h.symm e
    · exact .inl
theorem readyP_iff {m : Nat} {C : Array Bool} (hm : MaskOf ops m C) {p : PI} {o : Oper} (hp : PIok P nt ops p o) : readyP m p = true ↔ p.i ∈ Region.ready .any ops C := by
  have hlt : p.i < ops.size := (Array.getElem?_eq_some_iff.1 hp.at_).1
  have e : readyP m p = cnd (bit m p.i) false (Nat.beq (Nat.land p.w m) p.w) := rfl
  rw [e, bit_eq]
  constructor
  · intro h
    cases hb : m.testBit p.i with
    | true => rw [hb] at h; cases h
    | false =>
      rw [hb, cnd_false, land_sub] at h
      refine mem_ready.2 ⟨getD_ft (hm.no.1 hb) (by rw [hm.1]; exact hlt), o, hp.at_, fun ed he hbd => ?_⟩
      exact (hm.2 _).1 (h _ ((hp.w _).2 (waitsFor_iff.2 ⟨o, hp.at_, ed, he, hbd, rfl⟩)))
  · intro h
    have h0 := (getD_tf (mem_ready.1 h).1).1
    rw [hm.no.2 h0, cnd_false, land_sub]
    exact fun i hi => (hm.2 i).2 (ready_waits h ((hp.w i).1 hi))
theorem readyM_mem {m : Nat} {p : PI} : ∀ {I : List PI}, p ∈ readyM m I ↔ p ∈ I ∧ readyP m p = true
  | [] => by show p ∈ ([] : List PI) ↔ _; simp
  | q :: I => by
    show p ∈ cnd (readyP m q) (q :: readyM m I) (readyM m I) ↔ _
    cases h : readyP m q with
    | true =>
      rw [cnd_true, List.mem_cons, List.mem_cons, readyM_mem (I := I)]
      constructor
      · rintro (rfl | ⟨h1, h2⟩)
        · exact ⟨.inl rfl, h⟩
        · exact ⟨.inr h1, h2⟩
      · rintro ⟨rfl | h1, h2⟩
        · exact .inl rfl
        · exact .inr ⟨h1, h2⟩
    | false =>
      rw [cnd_false, List.mem_cons, readyM_mem (I := I)]
      constructor
      · rintro ⟨h1, h2⟩; exact ⟨.inr h1, h2⟩
      · rintro ⟨rfl | h1, h2⟩
        · rw [h] at h2; cases h2
        · exact ⟨h1, h2⟩
theorem allP_mem {f : PI → Bool} : ∀ {I : List PI}, allP f I = true → ∀ p ∈ I, f p = true
  | [], _, p, hp => nomatch hp
  | q :: I, h, p, hp => by
    obtain ⟨h1, h2⟩ := cnd_and (a := f q) (b := allP f I) h
    rcases List.mem_cons.1 hp with rfl | hp
    · exact h1
    · exact allP_mem h2 p hp
theorem findP_some {f : PI → Bool} {p : PI} : ∀ {I : List PI}, findP f I = some p → p ∈ I ∧ f p = true
  | [], h => nomatch h
  | q :: I, h => by
    have h : cnd (f q) (some q) (findP f I) = some p := h
    cases hf : f q with
    | true => rw [hf] at h; cases h; exact ⟨List.mem_cons_self, hf⟩
    | false => rw [hf] at h; obtain ⟨h1, h2⟩ := findP_some h; exact ⟨List.mem_cons_of_mem _ h1, h2⟩
theorem takesP_ok {m : Nat} {C : Array Bool} {I : List PI} (hm : MaskOf ops m C) (hI : InfosOK P nt ops I) (h1 : OneDst ops) {p : PI} {o : Oper} (hp : PIok P nt ops p o) (ht : takesP m I p = true) :
    tkOf (compSi P nt ops p.i []) = true ∧ Free ops C p.i ∧ Anti ops p.i := by
  obtain ⟨h2, h3⟩ := cnd_and (a := p.tk) (b := allP (apartP m p) I) ht
  have key : ∀ k ok, ops[k]? = some ok → waitsFor ops k p.i = true ∨ ((∀ d, o.dst = some d → d ∉ ok.looksAt ops) ∧ (k = p.i ∨ C.getD k false = true ∨ ∀ d, ok.dst = some d → d ∉ o.looksAt ops)) := by
    intro k ok hk
    obtain ⟨q, hq, hqk⟩ := hI.all k ok hk
    obtain ⟨oq, hoq⟩ := hI.ok q hq
    have e2 := hoq.at_
    rw [hqk, hk] at e2
    cases e2
    have ha : cnd (bit q.w p.i) true (cnd (Nat.beq (Nat.land q.l p.d) 0) (cnd (Nat.beq q.i p.i) true (cnd (bit m q.i) true (Nat.beq (Nat.land q.d p.l) 0))) false) = true := allP_mem h3 q hq
    rw [bit_eq, bit_eq] at ha
    cases hw : q.w.testBit p.i with
    | true => exact .inl (by rw [← hqk]; exact (hoq.w _).1 hw)
    | false =>
      rw [hw, cnd_false] at ha
      obtain ⟨h4, h5⟩ := cnd_and ha
      refine .inr ⟨fun d hd hl => land_zero h4 d ⟨(hoq.l d).2 hl, (hp.d d).2 hd⟩, ?_⟩
      cases he : Nat.beq q.i p.i with
      | true => exact .inl (by rw [← hqk]; exact Nat.eq_of_beq_eq_true he)
      | false =>
        rw [he, cnd_false] at h5
        cases hc : m.testBit q.i with
        | true => exact .inr (.inl (by rw [← hqk]; exact (hm.2 _).1 hc))
        | false =>
          rw [hc, cnd_false] at h5
          exact .inr (.inr fun d hd hl => land_zero h5 d ⟨(hoq.d d).2 hd, (hp.l d).2 hl⟩)
  refine ⟨hp.tk ▸ h2, fun oi hoi j oj hj hne hjc => ?_, fun oi d hoi hd k ok hk => ?_⟩
  · have := hp.at_
    rw [hoi] at this
    obtain rfl := Option.some.inj this
    rcases key j oj hj with h4 | ⟨h4, h5⟩
    · exact .inl h4
    · right
      have h6 : ∀ d, oj.dst = some d → d ∉ oi.looksAt ops := by
        rcases h5 with h5 | h5 | h5
        · exact absurd h5 hne
        · rw [h5] at hjc; cases hjc
        · exact h5
      unfold Oper.apart
      rw [Bool.and_eq_true]
      constructor
      · cases hd : oi.dst with
        | none => rfl
        | some d =>
          have h7 : oj.dst ≠ some d := h1 p.i j oi oj d hoi hj (Ne.symm hne) hd
          simp [h4 d hd, h7]
      · cases hd : oj.dst with
        | none => rfl
        | some d => simp [h6 d hd]
  · have := hp.at_
    rw [hoi] at this
    obtain rfl := Option.some.inj this
    rcases key k ok hk with h4 | ⟨h4, _⟩
    · exact .inl h4
    · exact .inr (h4 d hd)
theorem clo1_ok {I : List PI} (hI : ∀ p ∈ I, ∃ o, PIok P nt ops p o) {j m : Nat} (hm : ∀ k, m.testBit k = true → Rch ops j k) : ∀ k, (clo1 I m).testBit k = true → Rch ops j k := by
  have key : ∀ (J : List PI), (∀ p ∈ J, ∃ o, PIok P nt ops p o) → ∀ k, (lrec m (fun q ih => cnd (bit m q.i) (Nat.lor q.w ih) ih) J : Nat).testBit k = true → Rch ops j k := by
    intro J
    induction J with
    | nil => exact fun _ k hk => hm k hk
    | cons q J ih =>
      intro hJ k hk
      have hk : (cnd (bit m q.i) (Nat.lor q.w (lrec m (fun q ih => cnd (bit m q.i) (Nat.lor q.w ih) ih) J)) (lrec m (fun q ih => cnd (bit m q.i) (Nat.lor q.w ih) ih) J) : Nat).testBit k = true := hk
      have ih := ih fun p hp => hJ p (by simp [hp])
      rw [bit_eq] at hk
      cases hb : m.testBit q.i with
      | false => rw [hb] at hk; exact ih k hk
      | true =>
        rw [hb] at hk
        have hk : (q.w ||| (lrec m (fun q ih => cnd (bit m q.i) (Nat.lor q.w ih) ih) J : Nat)).testBit k = true := hk
        rw [Nat.testBit_or, Bool.or_eq_true] at hk
        rcases hk with hk | hk
        · obtain ⟨o, ho⟩ := hJ q (by simp)
          exact .more (hm _ hb) ((ho.w k).1 hk)
        · exact ih k hk
  exact key I hI
theorem reachM_ok {I : List PI} (hI : ∀ p ∈ I, ∃ o, PIok P nt ops p o) {j : Nat} : ∀ (n m : Nat), (∀ k, m.testBit k = true → Rch ops j k) → ∀ k, (reachM I n m).testBit k = true → Rch ops j k
  | 0, m, hm => hm
  | n + 1, m, hm => by
    have e : reachM I (n + 1) m = reachM I n (clo1 I m) := by
      show seqN (clo1 I m) (reachM I n) = _
      rw [seqN_eq]
    rw [e]
    exact reachM_ok hI n _ (clo1_ok hI hm)
theorem plan_ok {I : List PI} (hI : InfosOK P nt ops I) (h1 : OneDst ops) : ∀ (n m : Nat) (held : List Nat) (C : Array Bool) (l : List XS), MaskOf ops m C → plan P nt ops I n m held = some l → Plan P nt ops C held l := by
  have hdone : ∀ {m : Nat} {C : Array Bool}, MaskOf ops m C → readyM m I = [] → Region.ready .any ops C = [] := by
    intro m C hm hr
    cases h : Region.ready .any ops C with
    | nil => rfl
    | cons i r =>
      have hi : i ∈ Region.ready .any ops C := by rw [h]; simp
      obtain ⟨_, o, ho, _⟩ := mem_ready.1 hi
      obtain ⟨p, hp, rfl⟩ := hI.all i o ho
      obtain ⟨o', ho'⟩ := hI.ok p hp
      have : p ∈ readyM m I := readyM_mem.2 ⟨hp, (readyP_iff hm ho').2 hi⟩
      rw [hr] at this
      cases this
  intro n
  induction n with
  | zero =>
    intro m held C l hm h
    unfold plan at h
    split at h
    · rename_i hr; cases h; exact .done (hdone hm hr)
    · cases h
  | succ n ih =>
    intro m held C l hm h
    unfold plan at h
    split at h
    · rename_i hr; cases h; exact .done (hdone hm hr)
    · split at h
      · rename_i p hf
        rw [seqN_eq] at h
        obtain ⟨l', h2, rfl⟩ := mapO h
        obtain ⟨h3, h4⟩ := findP_some hf
        obtain ⟨hpI, hpr⟩ := readyM_mem.1 h3
        obtain ⟨o, ho⟩ := hI.ok p hpI
        have hlt : p.i < ops.size := (Array.getElem?_eq_some_iff.1 ho.at_).1
        obtain ⟨h5, h6, h7⟩ := takesP_ok hm hI h1 ho h4
        refine .take ((readyP_iff hm ho).1 hpr) h5 h6 h7 (ih _ _ _ l' (hm.set hlt) ?_)
        rw [← ho.rd]
        have : cnd p.rd (p.i :: held) held = if p.rd then p.i :: held else held := by cases p.rd <;> rfl
        rw [← this]
        exact h2
      · split at h
        · rename_i p hp
          rw [seqN_eq, seqL_eq, seqN_eq] at h
          obtain ⟨l', h2, rfl⟩ := mapO h
          have hpm : p ∈ readyM m I := by rw [hp]; simp
          obtain ⟨hpI, hpr⟩ := readyM_mem.1 hpm
          obtain ⟨o, ho⟩ := hI.ok p hpI
          have hlt : p.i < ops.size := (Array.getElem?_eq_some_iff.1 ho.at_).1
          have hrch : ∀ k, (reachH I held p.w).testBit k = true → Rch ops p.i k := by
            intro k hk
            unfold reachH at hk
            split at hk
            · simp at hk
            · exact reachM_ok hI.ok 24 p.w (fun k hk => .one ((ho.w k).1 hk)) k hk
          refine .go _ ((readyP_iff hm ho).1 hpr) (fun i hi => ?_) (fun i hi => ?_) (ih _ _ _ l' (hm.set hlt) h2)
          rotate_left
          · cases hb : (reachH I held p.w).testBit i with
            | true => exact .inr (hrch i hb)
            | false => exact .inl (List.mem_filter.2 ⟨hi, by rw [bit_eq, hb]; rfl⟩)
          obtain ⟨_, oi, hoi, _⟩ := mem_ready.1 hi
          obtain ⟨q, hq, rfl⟩ := hI.all i oi hoi
          obtain ⟨oq, hoq⟩ := hI.ok q hq
          have : q ∈ readyM m I := readyM_mem.2 ⟨hq, (readyP_iff hm hoq).2 hi⟩
          rw [hp] at this
          rw [List.mem_singleton.1 this]
        · cases h
/-- what is laid out for a region that draws its own order -/
theorem compReg_draw {l : List XS} (h : compReg P nt ops true = .reg l) : OneDst ops ∧ Plan P nt ops (Array.replicate ops.size false) [] l := by
  have h : (seqL (infos P nt ops 0 ops.toList) fun I => planOf P nt ops I) = .reg l := h
  rw [seqL_eq] at h
  unfold planOf at h
  split at h
  · rename_i l' h1 h2
    injection h with h
    subst h
    have hD := oneDst_spec h1
    refine ⟨hD, plan_ok infos_all hD _ _ _ _ _ ⟨by simp, fun i => ?_⟩ h2⟩
    rw [Array.getD_eq_getD_getElem?, Array.getElem?_replicate]
    split <;> simp
  · cases h
end
end Go.Proofs.YtdimeaooekhkhaaGreat.AX
