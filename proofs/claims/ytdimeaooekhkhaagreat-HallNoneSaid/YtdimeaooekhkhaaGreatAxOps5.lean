/- Proved: the operations that only look into memory. No function of the program is walked here. -/
import Derived.Test.YtdimeaooekhkhaaGreatAxOps4
import Derived.MapKept
set_option linter.unusedVariables false
set_option linter.unusedSimpArgs false
namespace Go.Proofs.YtdimeaooekhkhaaGreat.AX
open Go.RowKit

section
variable {P : Program} {E : Env} {B : Nat} {ρ : Ren} {S S' : St} {w : World} {f : Operand → Value} {tm : Tm} {fs : List Fact} {call : CallT} {v : AV} {o : Oper} {xo : XOp}

/-- what holds of an operation that reads -/
def ReadG (P : Program) (E : Env) (ρ : Ren) (S S' : St) (f : Operand → Value) (o : Oper) (w : World) (v : AV) : Prop := S' = S ∧ ∃ x, VR E ρ v x ∧ (execOp f o).run P w = .ok (.value x) w

theorem r_ld1 (hS : HR E B ρ S w) {t n : TypeId} {x : Operand} {xa : XA} (ho : o.op = .load t x) (hx : Hop E ρ f tm x) (h2 : XA.of x = some xa) (ha : cAgg P t = some false)
    (hr : (XOp.ld1 xa).run fs call tm S = .ok (v, S')) : ReadG P E ρ S S' f o w v := by
  have hr : ld1A S (ev xa tm) = .ok (v, S') := hr
  have hv := hx xa h2
  unfold ld1A at hr
  split at hr
  · rename_i b off hb
    rw [hb] at hv
    obtain ⟨g, c, hg, hy⟩ := hv
    obtain ⟨cs, hcs, r1⟩ := oif_eq_ok hr
    obtain ⟨y, hyv, r2⟩ := oif_eq_ok r1
    cases r2
    obtain ⟨e, op, hblk⟩ := rowOf_spec hcs
    rw [nth?_eq] at hyv
    obtain ⟨z, hz, hvz⟩ := hS.cell hblk hg hyv
    refine ⟨rfl, z, hvz, ?_⟩
    simp only [execOp, ho, hy, Instr.loadAt, Instr.sureAddr, loadVar, Sem.run_bind, Sem.run_pure, Result.andThen_ok, run_agg ha, Bool.false_eq_true, if_false, run_load, hz]
  · exact (err_ok hr).elim
theorem r_ldn (hS : HR E B ρ S w) {t n : TypeId} {x : Operand} {xa : XA} (ho : o.op = .load t x) (hx : Hop E ρ f tm x) (h2 : XA.of x = some xa) (ha : cAgg P t = some true) (hn : cSize P t = some n)
    (hr : (XOp.ldn n xa).run fs call tm S = .ok (v, S')) : ReadG P E ρ S S' f o w v := by
  have hr : ldnA n S (ev xa tm) = .ok (v, S') := hr
  have hv := hx xa h2
  unfold ldnA at hr
  split at hr
  · rename_i b off hb
    rw [hb] at hv
    obtain ⟨g, c, hg, hy⟩ := hv
    obtain ⟨cs, hcs, r1⟩ := oif_eq_ok hr
    obtain ⟨l, hl, r2⟩ := oif_eq_ok r1
    rw [seqL_eq] at r2
    cases r2
    obtain ⟨e, op, hblk⟩ := rowOf_spec hcs
    obtain ⟨xs, hxs, hlen, hcell⟩ := hS.stretch hblk hg hl
    have hld : (loadCells ⟨g, off, none⟩ n).run P w = .ok xs.toArray w := by
      rw [← hlen]
      exact run_loadCells_list w ⟨g, off, none⟩ xs (fun j u hj => by rw [add_off]; exact hcell j u hj)
    refine ⟨rfl, .agg xs.toArray, ⟨_, rfl, by simpa using hxs⟩, ?_⟩
    simp only [execOp, ho, hy, Instr.loadAt, Instr.sureAddr, loadVar, Sem.run_bind, Sem.run_pure, Result.andThen_ok, run_agg ha, if_true, run_size hn, hld]
  · exact (err_ok hr).elim

theorem bytesOf_cons (a : AV) (l : List AV) : bytesOf (a :: l) = (match a with | .int .u8 (.ofNat n) => cnd (Nat.blt n 256) (oif (bytesOf l) none fun r => some (n :: r)) none | _ => none) := rfl
theorem bytesOf_spec : ∀ {l : List AV} {s : List Nat} {xs : List Value}, bytesOf l = some s → VRs E ρ l xs → xs = s.map (fun n : Nat => Value.int .u8 (n : Int)) ∧ ∀ n ∈ s, n < 256
  | [], s, xs, h, hv => by cases h; rw [VRs.nil_iff.1 hv]; exact ⟨rfl, by simp⟩
  | a :: l, s, xs, h, hv => by
    obtain ⟨x, m, rfl, hx, hm⟩ := VRs.cons_iff.1 hv
    rw [bytesOf_cons] at h
    split at h
    · rename_i n
      rw [cnd_eq] at h
      split at h
      · rename_i hn
        cases hb : bytesOf l with
        | none => rw [hb] at h; cases h
        | some r =>
          rw [hb] at h
          cases h
          obtain ⟨h1, h2⟩ := bytesOf_spec hb hm
          simp only [VR] at hx
          subst hx
          have hn : n < 256 := by simpa using hn
          exact ⟨by rw [h1]; rfl, fun k hk => (List.mem_cons.1 hk).elim (fun e => e ▸ hn) (h2 k)⟩
      · cases h
    · cases h
theorem run_bytes (u : World) (F : Value → ByteArray → Sem (ForInStep ByteArray)) (hF : ∀ (n : Int) r, F (.int .u8 n) r = pure (.yield (r.push (UInt8.ofNat n.toNat)))) : ∀ (s : List Nat) (acc : ByteArray), (∀ n ∈ s, n < 256) →
    (forIn (m := Sem) (s.map (fun n : Nat => Value.int .u8 (n : Int))) acc F).run P u = .ok ⟨acc.data ++ (s.map UInt8.ofNat).toArray⟩ u
  | [], acc, _ => by simp
  | n :: s, acc, h => by
    have ih := run_bytes u F hF s (acc.push (UInt8.ofNat n)) (fun k hk => h k (by simp [hk]))
    simp only [List.map_cons, List.forIn_cons, hF, Sem.run_bind, Sem.run_pure, Result.andThen_ok, Int.toNat_natCast]
    rw [ih]
    congr 2
    apply Array.ext'
    simp [ByteArray.push]
theorem r_b2s (hS : HR E B ρ S w) {t d e : TypeId} {x : Operand} {xa : XA} (ho : o.op = .convert t d x) (hx : Hop E ρ f tm x) (h2 : XA.of x = some xa) (ht : P.underlying t = some (.slice e)) (hd : P.underlying d = some .string) (he : P.underlying e = some (.int .u8))
    (hr : (XOp.b2s xa).run fs call tm S = .ok (v, S')) : ReadG P E ρ S S' f o w v := by
  have hr : b2sA S (ev xa tm) = .ok (v, S') := hr
  have hv := hx xa h2
  have conv : ∀ (a : Option Addr) (n c : Nat), (convert t d (.slice a n c)).run P w = (Conv.bytesToString (.slice a n c)).run P w := fun a n c => by
    cases a <;> simp only [convert, Sem.run_bind, run_underlying ht, run_underlying hd, run_underlying he, Result.andThen_ok]
  have nil : ∀ (a : Option Addr) (c : Nat), (Conv.bytesToString (.slice a 0 c)).run P w = .ok (.string (mkS [])) w := fun a c => by
    cases a <;> simp [Conv.bytesToString, loadCells, loadCellsFrom, mkS] <;> rfl
  unfold b2sA at hr
  split at hr
  · rename_i hb
    rw [hb] at hv
    simp only [VR] at hv
    obtain ⟨rfl, rfl⟩ := rok_ok hr
    refine ⟨rfl, _, ⟨rfl, by simp⟩, ?_⟩
    simp only [execOp, ho, hv, Sem.run_bind, conv, nil, Result.andThen_ok, Sem.run_pure]
  · rename_i hb
    rw [hb] at hv
    obtain ⟨a, c, hy⟩ := hv
    obtain ⟨rfl, rfl⟩ := rok_ok hr
    refine ⟨rfl, _, ⟨rfl, by simp⟩, ?_⟩
    simp only [execOp, ho, hy, Sem.run_bind, conv, nil, Result.andThen_ok, Sem.run_pure]
  · rename_i b off n cp hb
    rw [hb] at hv
    obtain ⟨g, c, hg, hy⟩ := hv
    obtain ⟨cs, hcs, r1⟩ := oif_eq_ok hr
    obtain ⟨l, hl, r2⟩ := oif_eq_ok r1
    obtain ⟨s, hs, r3⟩ := oif_eq_ok r2
    rw [seqL_eq] at r3
    obtain ⟨rfl, rfl⟩ := rok_ok r3
    obtain ⟨e', op, hblk⟩ := rowOf_spec hcs
    obtain ⟨xs, hxs, hlen, hcell⟩ := hS.stretch hblk hg hl
    have hld : (loadCells ⟨g, off, none⟩ n).run P w = .ok xs.toArray w := by
      rw [← hlen]
      exact run_loadCells_list w ⟨g, off, none⟩ xs (fun j u hj => by rw [add_off]; exact hcell j u hj)
    obtain ⟨rfl, hsb⟩ := bytesOf_spec hs hxs
    refine ⟨rfl, _, ⟨rfl, hsb⟩, ?_⟩
    have hbs : (Conv.bytesToString (.slice (some ⟨g, off, none⟩) n (cp.val c))).run P w = .ok (.string (mkS s)) w := by
      simp only [Conv.bytesToString, Sem.run_bind, hld, Result.andThen_ok]
      simp only [List.forIn_toArray]
      rw [run_bytes w _ ?hF s ByteArray.empty hsb]
      case hF => exact fun _ _ => rfl
      simp [mkS]
    simp only [execOp, ho, hy, Sem.run_bind, conv, hbs, Result.andThen_ok, Sem.run_pure]
  · exact (err_ok hr).elim

/-! ## maps -/
def KK.says (kk : KK) (d : TypeDesc) : Prop := match kk with | .nt => ∃ k, d = .int k | .st => d = .string | .bl => d = .bool
theorem mapOf_spec {m : Nat} {p : List Ent × Nat} (h : mapOf S m = some p) : S.heap.get m = some (.map p.1 p.2) := by
  unfold mapOf at h
  cases hg : S.heap.get m with
  | none => rw [hg] at h; cases h
  | some k =>
    rw [hg] at h
    cases k with
    | row _ _ _ => cases h
    | map es c => cases h; rfl
    | mit _ _ => cases h
theorem get_map {g : Nat} {ms : Array MapEntry} {cl : Nat} (h : w.heap[g]? = some (.map ms cl)) : (getObj g).run P w = .ok (.map ms cl) w := by simp [getObj, Sem.run, h]
theorem HR.map (hS : HR E B ρ S w) {m : Nat} {es : List Ent} {cl g c : Nat} (hb : S.heap.get m = some (.map es cl)) (hr : ρ m = some (g, c)) : ∃ ms, w.heap[g]? = some (.map ms cl) ∧ EntsR E ρ es ms.toList := by
  obtain ⟨_, o, ho, ms, rfl, h2⟩ := hS.blk m _ g c hb hr
  exact ⟨ms, ho, h2⟩
theorem scEq_spec {a b : AV} {x y : Value} {r : Bool} {d : TypeDesc} {kk : KK} (hx : VR E ρ a x) (hy : VR E ρ b y) (hk : keyOk kk a = true) (hd : kk.says d)
    (h : scEq a b = some r) : Instr.sameNow d x y = some r ∧ (r = true → Instr.sameBits 10000 y x = true) := by
  unfold scEq at h
  split at h
  · simp only [VR] at hx hy
    subst hx; subst hy
    cases h
    cases kk <;> simp only [keyOk] at hk <;> (try (cases hk; done))
    have hd : d = .bool := hd
    subst hd
    refine ⟨by simp [Instr.sameNow, bEq_eq], fun hr => ?_⟩
    rw [bEq_eq] at hr
    have := (beq_iff_eq.1 hr).symm
    simp [Instr.sameBits, this]
  · simp only [VR] at hx hy
    subst hx; subst hy
    rw [cnd_eq] at h
    split at h
    · rename_i hkk
      rw [kindEq_iff] at hkk
      subst hkk
      cases h
      cases kk <;> simp only [keyOk] at hk <;> (try (cases hk; done))
      obtain ⟨k, rfl⟩ := hd
      refine ⟨by simp [Instr.sameNow, ibeq_eq], fun hr => ?_⟩
      rw [ibeq_eq] at hr
      have := (beq_iff_eq.1 hr).symm
      simp [Instr.sameBits, this]
    · cases h
  · rename_i p q
    obtain ⟨rfl, ha⟩ := hx
    obtain ⟨rfl, hb⟩ := hy
    cases h
    cases kk <;> simp only [keyOk] at hk <;> (try (cases hk; done))
    have hd : d = .string := hd
    subst hd
    have e : (mkS p == mkS q) = leq p q := by
      rw [beq_toListBytes, leq_eq, Bool.eq_iff_iff]
      simp only [beq_iff_eq, decide_eq_true_eq]
      exact mkS_inj ha hb
    refine ⟨by simp [Instr.sameNow, e], fun hr => ?_⟩
    rw [leq_eq, decide_eq_true_eq] at hr
    subst hr
    simp [Instr.sameBits, beq_toListBytes]
  · cases h
/-- what is found among a map's entries -/
theorem findE0_spec {k : AV} {x : Value} {d : TypeDesc} {kk : KK} (hx : VR E ρ k x) (hk : keyOk kk k = true) (hd : kk.says d) :
    ∀ {es : List Ent} {ms : List MapEntry} {r : Option (Nat × Ent)}, EntsR E ρ es ms → findE0 k es = some r → ∀ (j : Nat),
      match r with
      | none => Instr.findNow d x ms j = some none
      | some (i, e) => ∃ m, ms[i]? = some m ∧ Instr.findNow d x ms j = some (some (j + i, m.val)) ∧ es[i]? = some e ∧ VR E ρ e.val m.val ∧ m.born = e.born ∧ Instr.sameBits 10000 m.key x = true
  | [], [], r, _, h, j => by cases h; rfl
  | e :: es, m :: ms, r, ⟨h1, h2, h3, h4⟩, h, j => by
    have h : oif (scEq k e.key) none (fun r => cnd r (some (some (0, e))) (oif (findE0 k es) none fun f => oif f (some none) fun p => some (some (Nat.succ p.1, p.2)))) = some r := h
    cases hq : scEq k e.key with
    | none => rw [hq] at h; cases h
    | some b =>
      rw [hq] at h
      obtain ⟨s1, s2⟩ := scEq_spec hx h1 hk hd hq
      cases b with
      | true =>
        cases h
        exact ⟨m, rfl, by simp [Instr.findNow, s1], rfl, h2, h3, s2 rfl⟩
      | false =>
        have h : oif (findE0 k es) none (fun f => oif f (some none) fun p => some (some (Nat.succ p.1, p.2))) = some r := h
        cases hf : findE0 k es with
        | none => rw [hf] at h; cases h
        | some q =>
          rw [hf] at h
          have ih := findE0_spec hx hk hd h4 hf (j + 1)
          cases q with
          | none =>
            cases h
            simp only [Instr.findNow, s1]
            exact ih
          | some p =>
            obtain ⟨i, e'⟩ := p
            cases h
            obtain ⟨m', a1, a2, a3, a4⟩ := ih
            refine ⟨m', by simpa using a1, ?_, by simpa using a3, a4⟩
            simp only [Instr.findNow, s1]
            rw [a2, show j + 1 + i = j + (i + 1) by omega]
/-- of a map's type: keys of one kind -/
def KeyOf (P : Program) (t : TypeId) (kk : KK) (e : TypeId) : Prop := ∃ kt d, P.underlying t = some (.map kt e) ∧ P.underlying kt = some d ∧ kk.says d
theorem cMapKey_spec {t : TypeId} {kk : KK} {e : TypeId} (h : cMapKey P t = some (kk, e)) : KeyOf P t kk e := by
  unfold cMapKey at h
  split at h
  · rename_i kt e' hu
    split at h
    · rename_i k hk; cases h; exact ⟨kt, _, hu, hk, ⟨k, rfl⟩⟩
    · rename_i hk; cases h; exact ⟨kt, _, hu, hk, rfl⟩
    · rename_i hk; cases h; exact ⟨kt, _, hu, hk, rfl⟩
    · cases h
  · cases h
theorem run_checkKey' (n : Nat) {kt : TypeId} {d : TypeDesc} {kk : KK} {k : AV} {x : Value} (hx : VR E ρ k x) (hk : keyOk kk k = true) (hu : P.underlying kt = some d) (hd : kk.says d) (em : Bool) (u : World) :
    (Instr.checkKey em (n + 1) kt x).run P u = .ok () u := by
  cases kk <;> cases k <;> simp only [keyOk] at hk <;> (try (cases hk; done)) <;> simp only [VR] at hx
  · subst hx; obtain ⟨q, rfl⟩ := hd; simp only [Instr.checkKey, Sem.run_bind, run_underlying hu, Result.andThen_ok, Sem.run_pure]
  · obtain ⟨rfl, _⟩ := hx; have hd : d = .string := hd; subst hd; simp only [Instr.checkKey, Sem.run_bind, run_underlying hu, Result.andThen_ok, Sem.run_pure]
  · subst hx; have hd : d = .bool := hd; subst hd; simp only [Instr.checkKey, Sem.run_bind, run_underlying hu, Result.andThen_ok, Sem.run_pure]
theorem run_checkKey {kt : TypeId} {d : TypeDesc} {kk : KK} {k : AV} {x : Value} (hx : VR E ρ k x) (hk : keyOk kk k = true) (hu : P.underlying kt = some d) (hd : kk.says d) (em : Bool) (u : World) :
    (Instr.checkKey em 10000 kt x).run P u = .ok () u := run_checkKey' 9999 hx hk hu hd em u
theorem findE_ok {kk : KK} {k : AV} {es : List Ent} {r : Option (Nat × Ent)} (h : findE kk k es = some r) : keyOk kk k = true ∧ findE0 k es = some r := by
  unfold findE at h
  rw [cnd_eq] at h
  split at h
  · exact ⟨by assumption, h⟩
  · cases h
theorem okPair_ok {ok is : Bool} {z : AV} (h : okPair S ok z is = .ok (v, S')) : S' = S ∧ v = if ok then .tup [z, .bool is] else z := by
  unfold okPair at h
  cases ok with
  | true => obtain ⟨rfl, rfl⟩ := rok_ok h; exact ⟨rfl, rfl⟩
  | false => obtain ⟨rfl, rfl⟩ := rok_ok h; exact ⟨rfl, rfl⟩
theorem cZeroV_spec {e : TypeId} {z : AV} (h : cZeroV P e = some z) : ∃ x, VR E ρ z x ∧ ∀ u, (zeroValue e).run P u = .ok x u := by
  unfold cZeroV at h
  split at h
  · rename_i i hi
    split at h
    · rename_i x hx
      exact ⟨x, ofV_VR h, fun u => by simp [zeroValue, typeInfo, hi, hx]⟩
    · cases h
  · cases h
theorem r_lkp (hS : HR E B ρ S w) {t e : TypeId} {kk : KK} {z : AV} {ok : Bool} {m k : Operand} {ma ka : XA} (ho : o.op = .lookup t m k ok) (hm : Hop E ρ f tm m) (hk : Hop E ρ f tm k) (h1 : XA.of m = some ma) (h2 : XA.of k = some ka)
    (hc : cMapKey P t = some (kk, e)) (hz : cZeroV P e = some z) (hr : (XOp.lkp kk z ok ma ka).run fs call tm S = .ok (v, S')) : ReadG P E ρ S S' f o w v := by
  have hr : lkpA kk z ok S (ev ma tm) (ev ka tm) = .ok (v, S') := hr
  have hmv := hm ma h1
  have hkv := hk ka h2
  obtain ⟨kt, d, hu, hud, hd⟩ := cMapKey_spec hc
  obtain ⟨zx, hzx, hzr⟩ := cZeroV_spec (P := P) (E := E) (ρ := ρ) hz
  have fin : ∀ {y : AV} {yx : Value} {is : Bool}, VR E ρ y yx → VR E ρ (if ok then .tup [y, .bool is] else y) (if ok then .tuple #[yx, .bool is] else yx) := fun {y yx is} hy => by
    cases ok with
    | true => exact ⟨_, rfl, hy, rfl, trivial⟩
    | false => exact hy
  unfold lkpA at hr
  split at hr
  · rename_i hb
    rw [hb] at hmv
    simp only [VR] at hmv
    obtain ⟨hko, r1⟩ := cnd_eq_ok hr
    obtain ⟨rfl, rfl⟩ := okPair_ok r1
    refine ⟨rfl, _, fin hzx, ?_⟩
    have hnow : Instr.findNow d (f k) (#[] : Array MapEntry).toList 0 = some none := rfl
    simp only [execOp, ho, hmv, Instr.lookup, Sem.run_bind, run_underlying hu, Result.andThen_ok, Sem.run_pure, run_checkKey hkv hko hud hd, Instr.findKey, run_underlying hud, hnow, hzr, Sem.run_map]
  · rename_i r hb
    rw [hb] at hmv
    obtain ⟨g, c, hg, hy⟩ := hmv
    obtain ⟨p, hp, r1⟩ := oif_eq_ok hr
    obtain ⟨q, hq, r2⟩ := oif_eq_ok r1
    obtain ⟨hko, hq⟩ := findE_ok hq
    obtain ⟨ms, hms, hers⟩ := hS.map (mapOf_spec hp) hg
    have hfs := findE0_spec hkv hko hd hers hq 0
    cases q with
    | none =>
      have hfs : Instr.findNow d (f k) ms.toList 0 = some none := hfs
      obtain ⟨rfl, rfl⟩ := okPair_ok r2
      refine ⟨rfl, _, fin hzx, ?_⟩
      simp only [execOp, ho, hy, Instr.lookup, Sem.run_bind, run_underlying hu, Result.andThen_ok, Sem.run_pure, get_map hms, run_checkKey hkv hko hud hd, Instr.findKey, run_underlying hud, hfs, hzr, Sem.run_map]
    | some p =>
      obtain ⟨i, en⟩ := p
      obtain ⟨m', a1, a2, a3, a4, _⟩ := hfs
      obtain ⟨rfl, rfl⟩ := okPair_ok r2
      refine ⟨rfl, _, fin a4, ?_⟩
      simp only [execOp, ho, hy, Instr.lookup, Sem.run_bind, run_underlying hu, Result.andThen_ok, Sem.run_pure, get_map hms, run_checkKey hkv hko hud hd, Instr.findKey, run_underlying hud, a2]
  · exact (err_ok hr).elim
theorem EntsR.length : ∀ {es : List Ent} {ms : List MapEntry}, EntsR E ρ es ms → es.length = ms.length
  | [], [], _ => rfl
  | _ :: _, _ :: _, ⟨_, _, _, h⟩ => by simp [EntsR.length h]
theorem r_lnm (hS : HR E B ρ S w) {c : Call} {t kt e : TypeId} {ts : List TypeId} {xa : XA} (ho : o.op = .call c) (hb : c.callee = .builtin .len) (hH : ∀ x ∈ c.args.toList, Hop E ρ f tm x) (ha : XA.ofs c.args.toList = some [xa]) (ht : c.argTypes.toList = t :: ts)
    (hu : P.underlying t = some (.map kt e)) (hr : (XOp.lnm xa).run fs call tm S = .ok (v, S')) : ReadG P E ρ S S' f o w v := by
  have hr : lnmA S (ev xa tm) = .ok (v, S') := hr
  obtain ⟨x, hx, hxa⟩ := ofs_args1 ha
  have hv := hH x (by rw [hx]; simp) xa hxa
  have h0 : c.argTypes[0]? = some t := by rw [← Array.getElem?_toList, ht]; rfl
  obtain ⟨cs, hex⟩ := exec_builtin (P := P) (f := f) ho hb
  have key : ∀ (y : Value) (n : Nat), f x = y → (Builtin.len_ c.argTypes o.type #[y]).run P w = .ok (goInt n) w → (execOp f o).run P w = .ok (.value (.int .i64 n)) w := fun y n hy hl => by
    rw [hex w, hx]
    simp only [List.map_toArray, List.map_cons, List.map_nil, hy, builtin, Sem.run_bind, hl, Result.andThen_ok, Sem.run_pure, goInt]
  unfold lnmA at hr
  split at hr
  · rename_i hb2
    rw [hb2] at hv
    simp only [VR] at hv
    obtain ⟨rfl, rfl⟩ := okN_ok hr
    refine ⟨rfl, _, rfl, key _ _ hv ?_⟩
    simp only [Builtin.len_, h0, List.getElem?_toArray, List.getElem?_cons_zero, Sem.run_bind, run_underlying hu, Result.andThen_ok, Sem.run_pure]
    rfl
  · rename_i r hb2
    rw [hb2] at hv
    obtain ⟨g, cc, hg, hy⟩ := hv
    obtain ⟨p, hp, r1⟩ := oif_eq_ok hr
    obtain ⟨rfl, rfl⟩ := okN_ok r1
    obtain ⟨ms, hms, hers⟩ := hS.map (mapOf_spec hp) hg
    refine ⟨rfl, _, rfl, key _ _ hy ?_⟩
    simp only [Builtin.len_, h0, List.getElem?_toArray, List.getElem?_cons_zero, Sem.run_bind, run_underlying hu, Result.andThen_ok, Sem.run_pure, get_map hms, llen_eq, hers.length, Array.length_toList]
  · exact (err_ok hr).elim
end
end Go.Proofs.YtdimeaooekhkhaaGreat.AX
