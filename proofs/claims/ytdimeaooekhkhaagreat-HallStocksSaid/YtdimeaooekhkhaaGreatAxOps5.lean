/- Proved: the operations that only look into memory. No function of the program is walked here. -/
import Derived.Test.YtdimeaooekhkhaaGreatAxOps4
import Derived.MapKept
set_option linter.unusedVariables false
set_option linter.unusedSimpArgs false
namespace Go.Proofs.YtdimeaooekhkhaaGreat.AX
open Go.RowKit

section
variable {P : Program} {E : Env} {B : Nat} {ρ : Ren} {S S' : St} {w : World} {f : Operand → Value} {tm : Tm} {fs : List Fact} {call : CallT} {v : AV} {o : Oper} {xo : XOp}

/-- what holds of an operation that reads -/
def ReadG (P : Program) (E : Env) (ρ : Ren) (S S' : St) (f : Operand → Value) (o : Oper) (w : World) (v : AV) : Prop := S' = S ∧ ∃ x, VR E ρ v x ∧ (execOp f o).run P w = .ok (.value x) w

theorem r_ld1 (hS : HR E B ρ S w) {t n : TypeId} {x : Operand} {xa : XA} (ho : o.op = .load t x) (hx : Hop E ρ f tm x) (h2 : XA.of x = some xa) (ha : cAgg P t = some false)
    (hr : (XOp.ld1 xa).run fs call tm S = .ok (v, S')) : ReadG P E ρ S S' f o w v := by
  have hr : ld1A S (ev xa tm) = .ok (v, S') := hr
  have hv := hx xa h2
  unfold ld1A at hr
  split at hr
  · rename_i b off hb
    rw [hb] at hv
    obtain ⟨g, c, hg, hy⟩ := hv
    obtain ⟨cs, hcs, r1⟩ := oif_eq_ok hr
    obtain ⟨y, hyv, r2⟩ := oif_eq_ok r1
    cases r2
    obtain ⟨e, op, hblk⟩ := rowOf_spec hcs
    rw [nth?_eq] at hyv
    obtain ⟨z, hz, hvz⟩ := hS.cell hblk hg hyv
    refine ⟨rfl, z, hvz, ?_⟩
    simp only [execOp, ho, hy, Instr.loadAt, Instr.sureAddr, loadVar, Sem.run_bind, Sem.run_pure, Result.andThen_ok, run_agg ha, Bool.false_eq_true, if_false, run_load, hz]
  · exact (err_ok hr).elim
theorem r_ldn (hS : HR E B ρ S w) {t n : TypeId} {x : Operand} {xa : XA} (ho : o.op = .load t x) (hx : Hop E ρ f tm x) (h2 : XA.of x = some xa) (ha : cAgg P t = some true) (hn : cSize P t = some n)
    (hr : (XOp.ldn n xa).run fs call tm S = .ok (v, S')) : ReadG P E ρ S S' f o w v := by
  have hr : ldnA n S (ev xa tm) = .ok (v, S') := hr
  have hv := hx xa h2
  unfold ldnA at hr
  split at hr
  · rename_i b off hb
    rw [hb] at hv
    obtain ⟨g, c, hg, hy⟩ := hv
    obtain ⟨cs, hcs, r1⟩ := oif_eq_ok hr
    obtain ⟨l, hl, r2⟩ := oif_eq_ok r1
    rw [seqL_eq] at r2
    cases r2
    obtain ⟨e, op, hblk⟩ := rowOf_spec hcs
    obtain ⟨xs, hxs, hlen, hcell⟩ := hS.stretch hblk hg hl
    have hld : (loadCells ⟨g, off, none⟩ n).run P w = .ok xs.toArray w := by
      rw [← hlen]
      exact run_loadCells_list w ⟨g, off, none⟩ xs (fun j u hj => by rw [add_off]; exact hcell j u hj)
    refine ⟨rfl, .agg xs.toArray, ⟨_, rfl, by simpa using hxs⟩, ?_⟩
    simp only [execOp, ho, hy, Instr.loadAt, Instr.sureAddr, loadVar, Sem.run_bind, Sem.run_pure, Result.andThen_ok, run_agg ha, if_true, run_size hn, hld]
  · exact (err_ok hr).elim

theorem bytesOf_cons (a : AV) (l : List AV) : bytesOf (a :: l) = (match a with | .int .u8 (.ofNat n) => cnd (Nat.blt n 256) (oif (bytesOf l) none fun r => some (n :: r)) none | _ => none) := rfl
theorem bytesOf_spec : ∀ {l : List AV} {s : List Nat} {xs : List Value}, bytesOf l = some s → VRs E ρ l xs → xs = s.map (fun n : Nat => Value.int .u8 (n : Int)) ∧ ∀ n ∈ s, n < 256
  | [], s, xs, h, hv => by cases h; rw [VRs.nil_iff.1 hv]; exact ⟨rfl, by simp⟩
  | a :: l, s, xs, h, hv => by
    obtain ⟨x, m, rfl, hx, hm⟩ := VRs.cons_iff.1 hv
    rw [bytesOf_cons] at h
    split at h
    · rename_i n
      rw [cnd_eq] at h
      split at h
      · rename_i hn
        cases hb : bytesOf l with
        | none => rw [hb] at h; cases h
        | some r =>
          rw [hb] at h
          cases h
          obtain ⟨h1, h2⟩ := bytesOf_spec hb hm
          simp only [VR] at hx
          subst hx
          have hn : n < 256 := by simpa using hn
          exact ⟨by rw [h1]; rfl, fun k hk => (List.mem_cons.1 hk).elim (fun e => e ▸ hn) (h2 k)⟩
      · cases h
    · cases h
theorem run_bytes (u : World) (F : Value → ByteArray → Sem (ForInStep ByteArray)) (hF : ∀ (n : Int) r, F (.int .u8 n) r = pure (.yield (r.push (UInt8.ofNat n.toNat)))) : ∀ (s : List Nat) (acc : ByteArray), (∀ n ∈ s, n < 256) →
    (forIn (m := Sem) (s.map (fun n : Nat => Value.int .u8 (n : Int))) acc F).run P u = .ok ⟨acc.data ++ (s.map UInt8.ofNat).toArray⟩ u
  | [], acc, _ => by simp
  | n :: s, acc, h => by
    have ih := run_bytes u F hF s (acc.push (UInt8.ofNat n)) (fun k hk => h k (by simp [hk]))
    simp only [List.map_cons, List.forIn_cons, hF, Sem.run_bind, Sem.run_pure, Result.andThen_ok, Int.toNat_natCast]
    rw [ih]
    congr 2
    apply Array.ext'
    simp [ByteArray.push]
theorem r_b2s (hS : HR E B ρ S w) {t d e : TypeId} {x : Operand} {xa : XA} (ho : o.op = .convert t d x) (hx : Hop E ρ f tm x) (h2 : XA.of x = some xa) (ht : P.underlying t = some (.slice e)) (hd : P.underlying d = some .string) (he : P.underlying e = some (.int .u8))
    (hr : (XOp.b2s xa).run fs call tm S = .ok (v, S')) : ReadG P E ρ S S' f o w v := by
  have hr : b2sA S (ev xa tm) = .ok (v, S') := hr
  have hv := hx xa h2
  have conv : ∀ (a : Option Addr) (n c : Nat), (convert t d (.slice a n c)).run P w = (Conv.bytesToString (.slice a n c)).run P w := fun a n c => by
    cases a <;> simp only [convert, Sem.run_bind, run_underlying ht, run_underlying hd, run_underlying he, Result.andThen_ok]
  have nil : ∀ (a : Option Addr) (c : Nat), (Conv.bytesToString (.slice a 0 c)).run P w = .ok (.string (mkS [])) w := fun a c => by
    cases a <;> simp [Conv.bytesToString, loadCells, loadCellsFrom, mkS] <;> rfl
  unfold b2sA at hr
  split at hr
  · rename_i hb
    rw [hb] at hv
    simp only [VR] at hv
    obtain ⟨rfl, rfl⟩ := rok_ok hr
    refine ⟨rfl, _, ⟨rfl, by simp⟩, ?_⟩
    simp only [execOp, ho, hv, Sem.run_bind, conv, nil, Result.andThen_ok, Sem.run_pure]
  · rename_i hb
    rw [hb] at hv
    obtain ⟨a, c, hy⟩ := hv
    obtain ⟨rfl, rfl⟩ := rok_ok hr
    refine ⟨rfl, _, ⟨rfl, by simp⟩, ?_⟩
    simp only [execOp, ho, hy, Sem.run_bind, conv, nil, Result.andThen_ok, Sem.run_pure]
  · rename_i b off n cp hb
    rw [hb] at hv
    obtain ⟨g, c, hg, hy⟩ := hv
    obtain ⟨cs, hcs, r1⟩ := oif_eq_ok hr
    obtain ⟨l, hl, r2⟩ := oif_eq_ok r1
    obtain ⟨s, hs, r3⟩ := oif_eq_ok r2
    rw [seqL_eq] at r3
    obtain ⟨rfl, rfl⟩ := rok_ok r3
    obtain ⟨e', op, hblk⟩ := rowOf_spec hcs
    obtain ⟨xs, hxs, hlen, hcell⟩ := hS.stretch hblk hg hl
    have hld : (loadCells ⟨g, off, none⟩ n).run P w = .ok xs.toArray w := by
      rw [← hlen]
      exact run_loadCells_list w ⟨g, off, none⟩ xs (fun j u hj => by rw [add_off]; exact hcell j u hj)
    obtain ⟨rfl, hsb⟩ := bytesOf_spec hs hxs
    refine ⟨rfl, _, ⟨rfl, hsb⟩, ?_⟩
    have hbs : (Conv.bytesToString (.slice (some ⟨g, off, none⟩) n (cp.val c))).run P w = .ok (.string (mkS s)) w := by
      simp only [Conv.bytesToString, Sem.run_bind, hld, Result.andThen_ok]
      simp only [List.forIn_toArray]
      rw [run_bytes w _ ?hF s ByteArray.empty hsb]
      case hF => exact fun _ _ => rfl
      simp [mkS]
    simp only [execOp, ho, hy, Sem.run_bind, conv, hbs, Result.andThen_ok, Sem.run_pure]
  · exact (err_ok hr).elim

/-! ## maps -/
def KK.says (P : Program) (kk : KK) (kt : TypeId) (d : TypeDesc) : Prop := match kk with | .nt => ∃ k, d = .int k | .st => d = .string | .bl => d = .bool | .ag l => FlatAt P kt l ∧ ∃ fds, d = .struct fds
theorem mapOf_spec {m : Nat} {p : List Ent × Nat} (h : mapOf S m = some p) : S.heap.get m = some (.map p.1 p.2) := by
  unfold mapOf at h
  cases hg : S.heap.get m with
  | none => rw [hg] at h; cases h
  | some k =>
    rw [hg] at h
    cases k with
    | row _ _ _ => cases h
    | map es c => cases h; rfl
    | mit _ _ => cases h
theorem get_map {g : Nat} {ms : Array MapEntry} {cl : Nat} (h : w.heap[g]? = some (.map ms cl)) : (getObj g).run P w = .ok (.map ms cl) w := by simp [getObj, Sem.run, h]
theorem HR.map (hS : HR E B ρ S w) {m : Nat} {es : List Ent} {cl g c : Nat} (hb : S.heap.get m = some (.map es cl)) (hr : ρ m = some (g, c)) : ∃ ms, w.heap[g]? = some (.map ms cl) ∧ EntsR E ρ es ms.toList := by
  obtain ⟨_, o, ho, ms, rfl, h2⟩ := hS.blk m _ g c hb hr
  exact ⟨ms, ho, h2⟩
theorem scEq_spec {a b : AV} {x y : Value} {r : Bool} {d : TypeDesc} {kk : KK} {kt : TypeId} (hx : VR E ρ a x) (hy : VR E ρ b y) (hk : keyOk kk a = true) (hd : kk.says P kt d)
    (h : scEq a b = some r) : Instr.sameNow d x y = some r ∧ (r = true → Instr.sameBits 10000 y x = true) := by
  unfold scEq at h
  split at h
  · simp only [VR] at hx hy
    subst hx; subst hy
    cases h
    cases kk <;> simp only [keyOk] at hk <;> (try (cases hk; done))
    have hd : d = .bool := hd
    subst hd
    refine ⟨by simp [Instr.sameNow, bEq_eq], fun hr => ?_⟩
    rw [bEq_eq] at hr
    have := (beq_iff_eq.1 hr).symm
    simp [Instr.sameBits, this]
  · simp only [VR] at hx hy
    subst hx; subst hy
    rw [cnd_eq] at h
    split at h
    · rename_i hkk
      rw [kindEq_iff] at hkk
      subst hkk
      cases h
      cases kk <;> simp only [keyOk] at hk <;> (try (cases hk; done))
      obtain ⟨k, rfl⟩ := hd
      refine ⟨by simp [Instr.sameNow, ibeq_eq], fun hr => ?_⟩
      rw [ibeq_eq] at hr
      have := (beq_iff_eq.1 hr).symm
      simp [Instr.sameBits, this]
    · cases h
  · rename_i p q
    obtain ⟨rfl, ha⟩ := hx
    obtain ⟨rfl, hb⟩ := hy
    cases h
    cases kk <;> simp only [keyOk] at hk <;> (try (cases hk; done))
    have hd : d = .string := hd
    subst hd
    have e : (mkS p == mkS q) = leq p q := by
      rw [beq_toListBytes, leq_eq, Bool.eq_iff_iff]
      simp only [beq_iff_eq, decide_eq_true_eq]
      exact mkS_inj ha hb
    refine ⟨by simp [Instr.sameNow, e], fun hr => ?_⟩
    rw [leq_eq, decide_eq_true_eq] at hr
    subst hr
    simp [Instr.sameBits, beq_toListBytes]
  · cases h
def KK.sc (kk : KK) : Bool := match kk with | .ag _ => false | _ => true
theorem keyEq_sc {kk : KK} (h : kk.sc = true) (x y : AV) : keyEq kk x y = scEq x y := by cases kk <;> first | rfl | cases h
/-- what is found among a map's entries -/
theorem findE0_spec {k : AV} {x : Value} {d : TypeDesc} {kk : KK} {kt : TypeId} (hx : VR E ρ k x) (hk : keyOk kk k = true) (hd : kk.says P kt d) (hsc : kk.sc = true) :
    ∀ {es : List Ent} {ms : List MapEntry} {r : Option (Nat × Ent)}, EntsR E ρ es ms → findE0 kk k es = some r → ∀ (j : Nat),
      match r with
      | none => Instr.findNow d x ms j = some none
      | some (i, e) => ∃ m, ms[i]? = some m ∧ Instr.findNow d x ms j = some (some (j + i, m.val)) ∧ es[i]? = some e ∧ VR E ρ e.val m.val ∧ m.born = e.born ∧ Instr.sameBits 10000 m.key x = true
  | [], [], r, _, h, j => by cases h; rfl
  | e :: es, m :: ms, r, ⟨h1, h2, h3, h4⟩, h, j => by
    have h : oif (keyEq kk k e.key) none (fun r => cnd r (some (some (0, e))) (oif (findE0 kk k es) none fun f => oif f (some none) fun p => some (some (Nat.succ p.1, p.2)))) = some r := h
    rw [keyEq_sc hsc] at h
    cases hq : scEq k e.key with
    | none => rw [hq] at h; cases h
    | some b =>
      rw [hq] at h
      obtain ⟨s1, s2⟩ := scEq_spec (P := P) hx h1 hk hd hq
      cases b with
      | true =>
        cases h
        exact ⟨m, rfl, by simp [Instr.findNow, s1], rfl, h2, h3, s2 rfl⟩
      | false =>
        have h : oif (findE0 kk k es) none (fun f => oif f (some none) fun p => some (some (Nat.succ p.1, p.2))) = some r := h
        cases hf : findE0 kk k es with
        | none => rw [hf] at h; cases h
        | some q =>
          rw [hf] at h
          have ih := findE0_spec hx hk hd hsc h4 hf (j + 1)
          cases q with
          | none =>
            cases h
            simp only [Instr.findNow, s1]
            exact ih
          | some p =>
            obtain ⟨i, e'⟩ := p
            cases h
            obtain ⟨m', a1, a2, a3, a4⟩ := ih
            refine ⟨m', by simpa using a1, ?_, by simpa using a3, a4⟩
            simp only [Instr.findNow, s1]
            rw [a2, show j + 1 + i = j + (i + 1) by omega]
/-! keys that are structs -/
theorem eqCells_cons (p : Nat × SK) (l : List (Nat × SK)) (xs ys : List AV) : eqCells (p :: l) xs ys = oif (nth? p.1 xs) none fun x => oif (nth? p.1 ys) none fun y => oif (eqCell p.2 x y) none fun b => cnd b (eqCells l xs ys) (some false) := rfl
theorem oif_some' {α β : Type} {c : Option α} {f : α → Option β} {b : β} (h : oif c none f = some b) : ∃ a, c = some a ∧ f a = some b := by
  cases c with
  | some a => exact ⟨a, rfl, h⟩
  | none => cases h
theorem eqCells_step {p : Nat × SK} {l : List (Nat × SK)} {xs ys : List AV} {r : Bool} (h : eqCells (p :: l) xs ys = some r) : ∃ x y b, xs[p.1]? = some x ∧ ys[p.1]? = some y ∧ eqCell p.2 x y = some b ∧ ((b = true ∧ eqCells l xs ys = some r) ∨ (b = false ∧ r = false)) := by
  rw [eqCells_cons] at h
  obtain ⟨x, h1, h2⟩ := oif_some' h
  obtain ⟨y, h3, h4⟩ := oif_some' h2
  obtain ⟨b, h5, h6⟩ := oif_some' h4
  rw [nth?_eq] at h1 h3
  refine ⟨x, y, b, h1, h3, h5, ?_⟩
  cases b with
  | true => exact .inl ⟨rfl, h6⟩
  | false => cases h6; exact .inr ⟨rfl, rfl⟩
theorem eqAg_of {fs : List Fact} {xs ys : List AV} : ∀ {l : List (Nat × SK)} {r : Bool}, eqCells l xs ys = some r → eqAg fs l xs ys = .ok r
  | [], r, h => by cases h; rfl
  | p :: l, r, h => by
    obtain ⟨x, y, b, h1, h2, h3, h4⟩ := eqCells_step h
    rw [eqAg_cons, nth?_eq, nth?_eq, h1, h2]
    have : eqCellF fs p.2 x y = .ok b := by
      unfold eqCellF
      split
      · rename_i e; rw [e] at h3; rw [h3]; rfl
      · rw [h3]; rfl
    simp only [oif_some, this, bind_ok]
    rcases h4 with ⟨rfl, h4⟩ | ⟨rfl, rfl⟩
    · exact eqAg_of h4
    · rfl
theorem offsOk_cons (p : Nat × SK) (l : List (Nat × SK)) (i : Nat) : offsOk (p :: l) i = cnd (Nat.beq p.1 i) (offsOk l (i + 1)) false := rfl
theorem cellsOk_cons (p : Nat × SK) (l : List (Nat × SK)) (xs : List AV) : cellsOk (p :: l) xs = oif (nth? p.1 xs) false fun x => cnd (cellOk p.2 x) (cellsOk l xs) false := rfl
theorem cellsOk_step {p : Nat × SK} {l : List (Nat × SK)} {xs : List AV} (h : cellsOk (p :: l) xs = true) : ∃ x, xs[p.1]? = some x ∧ cellOk p.2 x = true ∧ cellsOk l xs = true := by
  rw [cellsOk_cons, nth?_eq] at h
  cases hx : xs[p.1]? with
  | none => rw [hx] at h; cases h
  | some x =>
    rw [hx] at h
    obtain ⟨h1, h2⟩ := both_of h
    exact ⟨x, rfl, h1, h2⟩
theorem eqCell_bits {s : SK} {a b : AV} {x y : Value} (hx : VR E ρ a x) (hy : VR E ρ b y) (h : eqCell s a b = some true) (n : Nat) : Instr.sameBits n y x = true := by
  unfold eqCell at h
  split at h
  · simp only [VR] at hx hy
    subst hx; subst hy
    rw [bEq_eq] at h
    have := (beq_iff_eq.1 (Option.some.inj h)).symm
    cases n <;> simp [Instr.sameBits, this]
  · obtain ⟨rfl, ha⟩ := hx
    obtain ⟨rfl, hb⟩ := hy
    rw [leq_eq] at h
    have := of_decide_eq_true (Option.some.inj h)
    subst this
    cases n <;> simp [Instr.sameBits, beq_toListBytes]
  · simp only [VR] at hx hy
    subst hx; subst hy
    rw [cnd_eq] at h
    split at h
    · rename_i hk
      rw [kindEq_iff] at hk
      subst hk
      rw [ibeq_eq] at h
      have := (beq_iff_eq.1 (Option.some.inj h)).symm
      cases n <;> simp [Instr.sameBits, this]
    · cases h
  · cases h
theorem cells_bits (n : Nat) : ∀ {l : List (Nat × SK)} {i : Nat} {as bs : List AV} {xs ys : List Value}, VRs E ρ as xs → VRs E ρ bs ys → eqCells l as bs = some true → offsOk l i = true → as.length = bs.length → i + l.length = as.length →
    ((ys.drop i).zip (xs.drop i)).all (fun p => Instr.sameBits n p.1 p.2) = true
  | [], i, as, bs, xs, ys, hx, hy, _, _, hl, hn => by
    have : xs.length = i := by rw [← hx.length]; simpa using hn.symm
    rw [List.drop_of_length_le (l := xs) (by omega), List.zip_nil_right]
    rfl
  | p :: l, i, as, bs, xs, ys, hx, hy, h, ho, hl, hn => by
    obtain ⟨a, b, c, h1, h2, h3, h4⟩ := eqCells_step h
    rw [offsOk_cons] at ho
    obtain ⟨h5, h6⟩ := both_of ho
    have h5 := Nat.eq_of_beq_eq_true h5
    rcases h4 with ⟨rfl, h4⟩ | ⟨_, hf⟩
    · obtain ⟨x, hx1, hx2⟩ := hx.get h1
      obtain ⟨y, hy1, hy2⟩ := hy.get h2
      rw [h5] at hx1 hy1
      have ih := cells_bits n hx hy h4 h6 hl (by simp at hn; omega)
      obtain ⟨hxl, hx3⟩ := List.getElem?_eq_some_iff.1 hx1
      obtain ⟨hyl, hy3⟩ := List.getElem?_eq_some_iff.1 hy1
      rw [List.drop_eq_getElem_cons hxl, List.drop_eq_getElem_cons hyl, List.zip_cons_cons, List.all_cons, hx3, hy3, eqCell_bits hx2 hy2 h3 n, ih]
      rfl
    · cases hf
/-- two keys of a flat type -/
theorem keyEq_ag {l : List (Nat × SK)} {kt : TypeId} (hF : FlatAt P kt l) {k q : AV} {x y : Value} {r : Bool} (hk : keyOk (.ag l) k = true) (hx : VR E ρ k x) (hy : VR E ρ q y) (h : keyEq (.ag l) k q = some r) :
    (∀ u, (Op.equal kt x y).run P u = .ok r u) ∧ (r = true → Instr.sameBits 10000 y x = true) := by
  unfold keyEq at h
  split at h
  · rename_i l' xs ys e
    cases e
    rw [cnd_eq] at h
    split at h
    · rename_i hl
      have hl := Nat.eq_of_beq_eq_true hl
      rw [llen_eq, llen_eq] at hl
      obtain ⟨xv, rfl, hxs⟩ := hx
      obtain ⟨yv, rfl, hys⟩ := hy
      refine ⟨fun u => eqAg_spec (fs := []) (fun f hf => by cases hf) hF hxs hys (eqAg_of h) 9998 u, fun hr => ?_⟩
      subst hr
      unfold keyOk at hk
      obtain ⟨h1, h2⟩ := both_of hk
      obtain ⟨h2, h3⟩ := both_of h2
      have h3 := Nat.eq_of_beq_eq_true h3
      rw [llen_eq, llen_eq] at h3
      have hb := cells_bits 9999 hxs hys h h2 hl (by omega)
      have hsz : yv.size = xv.size := by
        have h4 := hxs.length
        have h5 := hys.length
        simp only [Array.length_toList] at h4 h5
        omega
      show (yv.size == xv.size && (yv.toList.zip xv.toList).all fun p => Instr.sameBits 9999 p.1 p.2) = true
      rw [hsz]
      simpa using hb
    · cases h
  · cases h
  · first | (rename_i h1 h2 h3; exact (h3 l rfl).elim) | (rename_i h1 h2 h3; exact (h2 l rfl).elim) | (rename_i h1 h2 h3 h4; exact (h3 l rfl).elim)
theorem checkKey_cell {t : TypeId} {s : SK} (ht : cSK P t = some s) (em : Bool) (n : Nat) (x : Value) (hx : ∀ cs, x ≠ .agg cs) (hx2 : ∀ a b, x ≠ .iface a b) (u : World) : (Instr.checkKey em (n + 1) t x).run P u = .ok () u := by
  obtain ⟨d, hd, hs⟩ := cSK_spec ht
  unfold Instr.checkKey
  simp only [Sem.run_bind, run_underlying hd, Result.andThen_ok]
  cases s with
  | bl => subst hs; rfl
  | nt => obtain ⟨k, rfl⟩ := hs; rfl
  | st => subst hs; rfl
theorem cellOk_shape {s : SK} {a : AV} {x : Value} (hx : VR E ρ a x) (h : cellOk s a = true) : (∀ cs, x ≠ .agg cs) ∧ ∀ t y, x ≠ .iface t y := by
  unfold cellOk at h
  split at h
  · have hx : x = .bool _ := hx; subst hx; exact ⟨by simp, by simp⟩
  · obtain ⟨rfl, _⟩ := hx; exact ⟨by simp, by simp⟩
  · have hx : x = .int _ _ := hx; subst hx; exact ⟨by simp, by simp⟩
  · cases h
theorem checkFields (em : Bool) (n : Nat) {as : List AV} {xs : Array Value} (hx : VRs E ρ as xs.toList) (u : World) : ∀ {l : List Field} {fl : List (Nat × SK)}, cFlatF P l = some fl → cellsOk fl as = true →
    (forIn (m := Sem) l PUnit.unit fun f _ => do
      if f.name ≠ "_" then Instr.checkKey em (n + 1) f.type (← part f.type xs f.offset)
      pure (ForInStep.yield PUnit.unit)).run P u = .ok PUnit.unit u
  | [], fl, _, _ => by simp
  | f :: l, fl, hc, h => by
    unfold cFlatF at hc
    split at hc
    · cases hc
    · rename_i hn
      split at hc
      · rename_i s q hs hq
        cases hc
        obtain ⟨a, h1, h2, h3⟩ := cellsOk_step h
        obtain ⟨x, hx1, hx2⟩ := hx.get h1
        rw [Array.getElem?_toList] at hx1
        obtain ⟨q1, q2⟩ := cellOk_shape hx2 h2
        have ih := checkFields em n hx u hq h3
        simp only [List.forIn_cons, Sem.run_bind, if_pos hn, run_part_cell hs hx1 u, Result.andThen_ok, checkKey_cell hs em n x q1 q2 u, Sem.run_pure]
        exact ih
      · cases hc
theorem checkKey_ag {l : List (Nat × SK)} {kt : TypeId} (hF : FlatAt P kt l) {fds : Array Field} (hu : P.underlying kt = some (.struct fds)) {k : AV} {x : Value} (hk : keyOk (.ag l) k = true) (hx : VR E ρ k x) (em : Bool) (n : Nat) (u : World) : (Instr.checkKey em (n + 2) kt x).run P u = .ok () u := by
  have hc : cFlatF P fds.toList = some l := by
    rcases hF.2 with ⟨fds', hu', _, hc⟩ | ⟨m, e, s, i, hu', _⟩
    · rw [hu] at hu'; cases hu'; exact hc
    · rw [hu] at hu'; cases hu'
  unfold keyOk at hk
  split at hk
  · rename_i e; cases e
  · rename_i e; cases e
  · rename_i e; cases e
  · rename_i l' cs e
    cases e
    obtain ⟨xs, rfl, hxs⟩ := hx
    obtain ⟨h1, _⟩ := both_of hk
    have := checkFields (P := P) em n hxs u hc h1
    unfold Instr.checkKey
    simp only [Sem.run_bind, run_underlying hu, Result.andThen_ok]
    rw [← Array.forIn_toList]
    first | exact this | (simp only [Sem.run_bind, this, Result.andThen_ok, Sem.run_pure]) | simpa using this
  · cases hk
theorem asking_spec {l : List (Nat × SK)} {kt : TypeId} (hF : FlatAt P kt l) {k : AV} {x : Value} (hk : keyOk (.ag l) k = true) (hx : VR E ρ k x) (u : World) :
    ∀ {es : List Ent} {ms : List MapEntry} {r : Option (Nat × Ent)}, EntsR E ρ es ms → findE0 (.ag l) k es = some r → ∀ (j : Nat),
      match r with
      | none => (Instr.findAsking kt x ms j).run P u = .ok none u
      | some (i, e) => ∃ m, ms[i]? = some m ∧ (Instr.findAsking kt x ms j).run P u = .ok (some (j + i, m.val)) u ∧ es[i]? = some e ∧ VR E ρ e.val m.val ∧ m.born = e.born ∧ Instr.sameBits 10000 m.key x = true
  | [], [], r, _, h, j => by cases h; rfl
  | e :: es, m :: ms, r, ⟨h1, h2, h3, h4⟩, h, j => by
    have h : oif (keyEq (.ag l) k e.key) none (fun r => cnd r (some (some (0, e))) (oif (findE0 (.ag l) k es) none fun f => oif f (some none) fun p => some (some (Nat.succ p.1, p.2)))) = some r := h
    obtain ⟨b, hq, h⟩ := oif_some' h
    obtain ⟨s1, s2⟩ := keyEq_ag hF hk hx h1 hq
    cases b with
    | true =>
      cases h
      exact ⟨m, rfl, by simp [Instr.findAsking, Sem.run_bind, s1 u], rfl, h2, h3, s2 rfl⟩
    | false =>
      have h : oif (findE0 (.ag l) k es) none (fun f => oif f (some none) fun p => some (some (Nat.succ p.1, p.2))) = some r := h
      obtain ⟨q, hf, h⟩ := oif_some' h
      have ih := asking_spec hF hk hx u h4 hf (j + 1)
      cases q with
      | none =>
        cases h
        simp only [Instr.findAsking, Sem.run_bind, s1 u, Result.andThen_ok, Bool.false_eq_true, if_false]
        exact ih
      | some p =>
        obtain ⟨i, e'⟩ := p
        cases h
        obtain ⟨m', a1, a2, a3, a4⟩ := ih
        refine ⟨m', by simpa using a1, ?_, by simpa using a3, a4⟩
        simp only [Instr.findAsking, Sem.run_bind, s1 u, Result.andThen_ok, Bool.false_eq_true, if_false]
        rw [a2, show j + 1 + i = j + (i + 1) by omega]
/-- a key is looked for among a map's entries -/
theorem find_run {kk : KK} {kt : TypeId} {d : TypeDesc} {k : AV} {x : Value} (hx : VR E ρ k x) (hk : keyOk kk k = true) (hud : P.underlying kt = some d) (hd : kk.says P kt d) {es : List Ent} {ms : List MapEntry} {r : Option (Nat × Ent)} (he : EntsR E ρ es ms) (h : findE0 kk k es = some r) (u : World) :
      match r with
      | none => (Instr.findKey kt x ms).run P u = .ok none u
      | some (i, e) => ∃ m, ms[i]? = some m ∧ (Instr.findKey kt x ms).run P u = .ok (some (i, m.val)) u ∧ es[i]? = some e ∧ VR E ρ e.val m.val ∧ m.born = e.born ∧ Instr.sameBits 10000 m.key x = true := by
  cases hsc : kk.sc with
  | true =>
    have hfs := findE0_spec hx hk hd hsc he h 0
    cases r with
    | none => simp only at hfs ⊢; simp only [Instr.findKey, Sem.run_bind, run_underlying hud, Result.andThen_ok, hfs, Sem.run_pure]
    | some p =>
      obtain ⟨i, e⟩ := p
      obtain ⟨m, a1, a2, a3⟩ := hfs
      rw [Nat.zero_add] at a2
      exact ⟨m, a1, by simp only [Instr.findKey, Sem.run_bind, run_underlying hud, Result.andThen_ok, a2, Sem.run_pure], a3⟩
  | false =>
    obtain ⟨l, rfl⟩ : ∃ l, kk = .ag l := by cases kk <;> first | exact ⟨_, rfl⟩ | cases hsc
    obtain ⟨hF, fds, rfl⟩ := hd
    have ha := asking_spec hF hk hx u he h 0
    have fk : (Instr.findKey kt x ms).run P u = (Instr.findAsking kt x ms 0).run P u := by
      unfold Instr.findKey
      simp only [Sem.run_bind, run_underlying hud, Result.andThen_ok]
      cases ms with
      | nil => rfl
      | cons m ms =>
        have : Instr.findNow (.struct fds) x (m :: ms) 0 = none := by
          unfold Instr.findNow
          have : Instr.sameNow (.struct fds) x m.key = none := by cases x <;> rfl
          rw [this]
        rw [this]
    rw [fk]
    cases r with
    | none => exact ha
    | some p =>
      obtain ⟨i, e⟩ := p
      obtain ⟨m, a1, a2, a3⟩ := ha
      rw [Nat.zero_add] at a2
      exact ⟨m, a1, a2, a3⟩
/-- of a map's type: keys of one kind -/
def KeyOf (P : Program) (t : TypeId) (kk : KK) (e : TypeId) : Prop := ∃ kt d, P.underlying t = some (.map kt e) ∧ P.underlying kt = some d ∧ kk.says P kt d
theorem cMapKey_spec {t : TypeId} {kk : KK} {e : TypeId} (h : cMapKey P t = some (kk, e)) : KeyOf P t kk e := by
  unfold cMapKey at h
  split at h
  · rename_i kt e' hu
    split at h
    · rename_i k hk; cases h; exact ⟨kt, _, hu, hk, ⟨k, rfl⟩⟩
    · rename_i hk; cases h; exact ⟨kt, _, hu, hk, rfl⟩
    · rename_i hk; cases h; exact ⟨kt, _, hu, hk, rfl⟩
    · rename_i fds hk
      obtain ⟨l, hl, h⟩ := mapO h
      cases h
      exact ⟨kt, _, hu, hk, cFlat_spec hl, fds, rfl⟩
    · cases h
  · cases h
theorem checkKey_sc {kt : TypeId} {d : TypeDesc} (hd : (∃ k, d = .int k) ∨ d = .string ∨ d = .bool) (hu : P.underlying kt = some d) {x : Value} (_ : ∀ cs, x ≠ .agg cs) (_ : ∀ a b, x ≠ .iface a b) (em : Bool) (n : Nat) (u : World) : (Instr.checkKey em (n + 1) kt x).run P u = .ok () u := by
  unfold Instr.checkKey
  rcases hd with ⟨k, rfl⟩ | rfl | rfl <;> simp only [Sem.run_bind, run_underlying hu, Result.andThen_ok] <;> rfl
theorem run_checkKey {kt : TypeId} {d : TypeDesc} {kk : KK} {k : AV} {x : Value} (hx : VR E ρ k x) (hk : keyOk kk k = true) (hu : P.underlying kt = some d) (hd : kk.says P kt d) (em : Bool) (u : World) :
    (Instr.checkKey em 10000 kt x).run P u = .ok () u := by
  cases kk
  case ag l => obtain ⟨hF, fds, rfl⟩ := hd; exact checkKey_ag hF hu hk hx em 9998 u
  all_goals
    cases k <;> simp only [keyOk] at hk <;> (try (cases hk; done)) <;> simp only [VR] at hx
  · subst hx; obtain ⟨q, hd⟩ := hd; exact checkKey_sc (.inl ⟨q, hd⟩) hu (by simp) (by simp) em 9999 u
  · obtain ⟨rfl, _⟩ := hx; exact checkKey_sc (.inr (.inl hd)) hu (by simp) (by simp) em 9999 u
  · subst hx; exact checkKey_sc (.inr (.inr hd)) hu (by simp) (by simp) em 9999 u
theorem findE_ok {kk : KK} {k : AV} {es : List Ent} {r : Option (Nat × Ent)} (h : findE kk k es = some r) : keyOk kk k = true ∧ findE0 kk k es = some r := by
  unfold findE at h
  rw [cnd_eq] at h
  split at h
  · exact ⟨by assumption, h⟩
  · cases h
theorem okPair_ok {ok is : Bool} {z : AV} (h : okPair S ok z is = .ok (v, S')) : S' = S ∧ v = if ok then .tup [z, .bool is] else z := by
  unfold okPair at h
  cases ok with
  | true => obtain ⟨rfl, rfl⟩ := rok_ok h; exact ⟨rfl, rfl⟩
  | false => obtain ⟨rfl, rfl⟩ := rok_ok h; exact ⟨rfl, rfl⟩
theorem cZeroV_spec {e : TypeId} {z : AV} (h : cZeroV P e = some z) : ∃ x, VR E ρ z x ∧ ∀ u, (zeroValue e).run P u = .ok x u := by
  unfold cZeroV at h
  split at h
  · rename_i i hi
    split at h
    · rename_i x hx
      exact ⟨x, ofV_VR h, fun u => by simp [zeroValue, typeInfo, hi, hx]⟩
    · cases h
  · cases h
theorem r_lkp (hS : HR E B ρ S w) {t e : TypeId} {kk : KK} {z : AV} {ok : Bool} {m k : Operand} {ma ka : XA} (ho : o.op = .lookup t m k ok) (hm : Hop E ρ f tm m) (hk : Hop E ρ f tm k) (h1 : XA.of m = some ma) (h2 : XA.of k = some ka)
    (hc : cMapKey P t = some (kk, e)) (hz : cZeroV P e = some z) (hr : (XOp.lkp kk z ok ma ka).run fs call tm S = .ok (v, S')) : ReadG P E ρ S S' f o w v := by
  have hr : lkpA kk z ok S (ev ma tm) (ev ka tm) = .ok (v, S') := hr
  have hmv := hm ma h1
  have hkv := hk ka h2
  obtain ⟨kt, d, hu, hud, hd⟩ := cMapKey_spec hc
  obtain ⟨zx, hzx, hzr⟩ := cZeroV_spec (P := P) (E := E) (ρ := ρ) hz
  have fin : ∀ {y : AV} {yx : Value} {is : Bool}, VR E ρ y yx → VR E ρ (if ok then .tup [y, .bool is] else y) (if ok then .tuple #[yx, .bool is] else yx) := fun {y yx is} hy => by
    cases ok with
    | true => exact ⟨_, rfl, hy, rfl, trivial⟩
    | false => exact hy
  unfold lkpA at hr
  split at hr
  · rename_i hb
    rw [hb] at hmv
    simp only [VR] at hmv
    obtain ⟨hko, r1⟩ := cnd_eq_ok hr
    obtain ⟨rfl, rfl⟩ := okPair_ok r1
    refine ⟨rfl, _, fin hzx, ?_⟩
    have hnow : (Instr.findKey kt (f k) (#[] : Array MapEntry).toList).run P w = .ok none w := find_run (es := []) (ms := []) (r := none) hkv hko hud hd trivial rfl w
    simp only [execOp, ho, hmv, Instr.lookup, Sem.run_bind, run_underlying hu, Result.andThen_ok, Sem.run_pure, run_checkKey hkv hko hud hd, hnow, hzr, Sem.run_map]
  · rename_i r hb
    rw [hb] at hmv
    obtain ⟨g, c, hg, hy⟩ := hmv
    obtain ⟨p, hp, r1⟩ := oif_eq_ok hr
    obtain ⟨q, hq, r2⟩ := oif_eq_ok r1
    obtain ⟨hko, hq⟩ := findE_ok hq
    obtain ⟨ms, hms, hers⟩ := hS.map (mapOf_spec hp) hg
    have hfs := find_run hkv hko hud hd hers hq w
    cases q with
    | none =>
      have hfs : (Instr.findKey kt (f k) ms.toList).run P w = .ok none w := hfs
      obtain ⟨rfl, rfl⟩ := okPair_ok r2
      refine ⟨rfl, _, fin hzx, ?_⟩
      simp only [execOp, ho, hy, Instr.lookup, Sem.run_bind, run_underlying hu, Result.andThen_ok, Sem.run_pure, get_map hms, run_checkKey hkv hko hud hd, hfs, hzr, Sem.run_map]
    | some p =>
      obtain ⟨i, en⟩ := p
      obtain ⟨m', a1, a2, a3, a4, _⟩ := hfs
      obtain ⟨rfl, rfl⟩ := okPair_ok r2
      refine ⟨rfl, _, fin a4, ?_⟩
      simp only [execOp, ho, hy, Instr.lookup, Sem.run_bind, run_underlying hu, Result.andThen_ok, Sem.run_pure, get_map hms, run_checkKey hkv hko hud hd, a2]
  · exact (err_ok hr).elim
theorem EntsR.length : ∀ {es : List Ent} {ms : List MapEntry}, EntsR E ρ es ms → es.length = ms.length
  | [], [], _ => rfl
  | _ :: _, _ :: _, ⟨_, _, _, h⟩ => by simp [EntsR.length h]
theorem r_lnm (hS : HR E B ρ S w) {c : Call} {t kt e : TypeId} {ts : List TypeId} {xa : XA} (ho : o.op = .call c) (hb : c.callee = .builtin .len) (hH : ∀ x ∈ c.args.toList, Hop E ρ f tm x) (ha : XA.ofs c.args.toList = some [xa]) (ht : c.argTypes.toList = t :: ts)
    (hu : P.underlying t = some (.map kt e)) (hr : (XOp.lnm xa).run fs call tm S = .ok (v, S')) : ReadG P E ρ S S' f o w v := by
  have hr : lnmA S (ev xa tm) = .ok (v, S') := hr
  obtain ⟨x, hx, hxa⟩ := ofs_args1 ha
  have hv := hH x (by rw [hx]; simp) xa hxa
  have h0 : c.argTypes[0]? = some t := by rw [← Array.getElem?_toList, ht]; rfl
  obtain ⟨cs, hex⟩ := exec_builtin (P := P) (f := f) ho hb
  have key : ∀ (y : Value) (n : Nat), f x = y → (Builtin.len_ c.argTypes o.type #[y]).run P w = .ok (goInt n) w → (execOp f o).run P w = .ok (.value (.int .i64 n)) w := fun y n hy hl => by
    rw [hex w, hx]
    simp only [List.map_toArray, List.map_cons, List.map_nil, hy, builtin, Sem.run_bind, hl, Result.andThen_ok, Sem.run_pure, goInt]
  unfold lnmA at hr
  split at hr
  · rename_i hb2
    rw [hb2] at hv
    simp only [VR] at hv
    obtain ⟨rfl, rfl⟩ := okN_ok hr
    refine ⟨rfl, _, rfl, key _ _ hv ?_⟩
    simp only [Builtin.len_, h0, List.getElem?_toArray, List.getElem?_cons_zero, Sem.run_bind, run_underlying hu, Result.andThen_ok, Sem.run_pure]
    rfl
  · rename_i r hb2
    rw [hb2] at hv
    obtain ⟨g, cc, hg, hy⟩ := hv
    obtain ⟨p, hp, r1⟩ := oif_eq_ok hr
    obtain ⟨rfl, rfl⟩ := okN_ok r1
    obtain ⟨ms, hms, hers⟩ := hS.map (mapOf_spec hp) hg
    refine ⟨rfl, _, rfl, key _ _ hy ?_⟩
    simp only [Builtin.len_, h0, List.getElem?_toArray, List.getElem?_cons_zero, Sem.run_bind, run_underlying hu, Result.andThen_ok, Sem.run_pure, get_map hms, llen_eq, hers.length, Array.length_toList]
  · exact (err_ok hr).elim
end
end Go.Proofs.YtdimeaooekhkhaaGreat.AX
