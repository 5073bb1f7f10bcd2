/- Proved: the operations that make a block, and those that turn memory. No function of the program is walked here. -/
import Derived.Test.YtdimeaooekhkhaaGreatAxOps5
import Derived.Deep.AppendSrc
import Derived.Lib.AppendZeros
set_option linter.unusedVariables false
set_option linter.unusedSimpArgs false
namespace Go.Proofs.YtdimeaooekhkhaaGreat.AX
open Go.RowKit

section
variable {P : Program} {E : Env} {B : Nat} {ρ : Ren} {S S' : St} {w : World} {f : Operand → Value} {tm : Tm} {fs : List Fact} {call : CallT} {v : AV} {o : Oper} {xo : XOp}

/-- what holds of an operation that makes one block -/
def NewsG (P : Program) (E : Env) (ρ : Ren) (S S' : St) (f : Operand → Value) (o : Oper) (v : AV) : Prop :=
  ∃ (k : Blk) (c : Nat) (obj : Obj) (mk : Nat → Value), S' = S.new k ∧ (∀ ρ', ρ.le ρ' → OR E ρ' k c obj) ∧ (∀ u, (execOp f o).run P u = .ok (.value (mk u.heap.size)) (u.alloc obj)) ∧ ∀ (ρ' : Ren) g, ρ' S.next = some (g, c) → VR E ρ' v (mk g)
/-- what holds of an operation that turns memory -/
def EffG (P : Program) (E : Env) (B : Nat) (ρ : Ren) (S : St) (w : World) (S' : St) (f : Operand → Value) (o : Oper) (v : AV) : Prop :=
  ∃ (ρ' : Ren) (x : Value) (w' : World) (nx : Next), (execOp f o).run P w = .ok nx w' ∧ (nx = .value x ∨ (nx = .skip ∧ x = Go.undef)) ∧ VR E ρ' v x ∧ HR E B ρ' S' w' ∧ Ext B ρ S w ρ' S' w'

theorem newRow_ok {e : Nat} {op : Option Nat} {u : AV} {cs : List AV} (h : newRow S e op u cs = .ok (v, S')) : v = u ∧ S' = S.new (.row cs e op) := by
  unfold newRow at h
  rw [seqL_eq] at h
  exact rok_ok h
theorem OR.row {cs : List AV} {xs : Array Value} {e : Nat} {t : TypeId} (h : VRs E ρ cs xs.toList) : OR E ρ (.row cs e none) 0 (.cells xs t (0, 0)) := by
  have hl : cs.length = xs.size := by rw [VRs.length h, Array.length_toList]
  refine ⟨xs, t, (0, 0), rfl, fun j _ hh => by have := hh.2; simp at this, ?_, Nat.le_of_eq hl, hl.symm⟩
  rw [List.take_of_length_le (Nat.le_of_eq (by rw [Array.length_toList, hl]))]
  exact h
theorem n_row {e : TypeId} {z : List AV} (ho : o.op = .alloc e) (hz : cZero P e = some z) (hr : (XOp.row e z).run fs call tm S = .ok (v, S')) : NewsG P E ρ S S' f o v := by
  obtain ⟨rfl, rfl⟩ := newRow_ok hr
  obtain ⟨i, x, hi, hx, _, _, _⟩ := cZero_spec (E := E) (ρ := ρ) hz
  refine ⟨_, 0, .cells x.cells e, fun g => .pointer (some ⟨g, 0, none⟩), rfl, fun ρ' _ => ?_, fun u => ?_, fun ρ' g hg => ⟨g, 0, hg, rfl⟩⟩
  · obtain ⟨i', x', hi', hx', hv, _, _⟩ := cZero_spec (E := E) (ρ := ρ') hz
    rw [hi] at hi'; cases hi'
    rw [hx] at hx'; cases hx'
    exact OR.row hv
  · have hzv : (zeroValue e).run P u = .ok x u := by simp [zeroValue, typeInfo, hi, hx]
    simp only [execOp, ho, Instr.alloc, Sem.run_bind, hzv, Result.andThen_ok, newVar, Go.newRow, run_newObj, Sem.run_pure]
    rfl
theorem n_box {e : TypeId} {x : Operand} {xa : XA} (ho : o.op = .box e x) (hx : Hop E ρ f tm x) (h2 : XA.of x = some xa) (hr : (XOp.box e xa).run fs call tm S = .ok (v, S')) : NewsG P E ρ S S' f o v := by
  have hr : seqV (ev xa tm) (fun v => cnd (allOne v.cells) (newRow S e none (.ptr S.next 0) v.cells) (err "box")) = .ok (v, S') := hr
  rw [seqV_eq] at hr
  obtain ⟨ho1, r1⟩ := cnd_eq_ok hr
  obtain ⟨rfl, rfl⟩ := newRow_ok r1
  refine ⟨_, 0, .cells (f x).cells e, fun g => .pointer (some ⟨g, 0, none⟩), rfl, fun ρ' hle => OR.row (((hx xa h2).mono hle).cells ho1), fun u => ?_, fun ρ' g hg => ⟨g, 0, hg, rfl⟩⟩
  simp only [execOp, ho, Instr.box, Sem.run_bind, Result.andThen_ok, newVar, Go.newRow, run_newObj, Sem.run_pure]
  rfl
theorem reps_eq {z : Array Value} (n : Nat) : (List.range (n * z.size)).map (fun i => z[i % z.size]!) = (List.replicate n z.toList).flatten := by
  induction n with
  | zero => simp
  | succ n ih =>
    rw [Nat.succ_mul, List.range_add, List.map_append, ih, List.replicate_succ', List.flatten_append]
    congr 1
    simp only [List.map_map, List.flatten_cons, List.flatten_nil, List.append_nil]
    apply List.ext_getElem
    · simp
    · intro j h1 h2
      have hj : j < z.size := by simpa using h1
      simp only [List.getElem_map, List.getElem_range, Function.comp_apply]
      have : (n * z.size + j) % z.size = j := by rw [Nat.mul_comm, Nat.mul_add_mod, Nat.mod_eq_of_lt hj]
      rw [this, getElem!_pos z j hj]
      simp
theorem reps_VRs {z : List AV} {zs : List Value} (h : VRs E ρ z zs) : ∀ n, VRs E ρ (reps z n) (List.replicate n zs).flatten
  | 0 => trivial
  | n + 1 => by rw [reps_succ, List.replicate_succ, List.flatten_cons]; exact h.append (reps_VRs h n)
theorem n_bsl {t : TypeId} {n : Nat} {ps : Array (Nat × Operand)} (ho : o.op = .buildSlice t n ps) (hH : ∀ p ∈ ps.toList, Hop E ρ f tm p.2) (hc : cBsl P t n ps.toList = some xo) (hr : xo.run fs call tm S = .ok (v, S')) : NewsG P E ρ S S' f o v := by
  unfold cBsl at hc
  split at hc
  · rename_i e size z hsl
    split at hc
    · rename_i hlim
      obtain ⟨xs, hxs, rfl⟩ := mapO hc
      obtain ⟨hu, i, hi, rfl, hz, hpos, _⟩ := cSlice_spec hsl
      have hr : oif (fillA tm xs (reps z n)) (err "slice literal") (fun cs => newRow S e none (.slice S.next 0 n (.ex n)) cs) = .ok (v, S') := hr
      obtain ⟨cs', hcs, r1⟩ := oif_eq_ok hr
      obtain ⟨rfl, rfl⟩ := newRow_ok r1
      obtain ⟨i', x, hi', hx, hzv, _, hzl⟩ := cZero_spec (E := E) (ρ := ρ) hz
      rw [hi] at hi'; cases hi'
      have hzs : x.cells.size = i.size := by rw [← Array.length_toList, ← hzv.length, hzl]
      have hinit : ∀ ρ', ρ.le ρ' → VRs E ρ' (reps z n) ((Array.range (n * i.size)).map (x.cells[· % x.cells.size]!)).toList := fun ρ' hle => by
        rw [Array.toList_map, Array.toList_range, ← hzs, reps_eq]
        exact reps_VRs (hzv.mono hle) n
      obtain ⟨cells, h1, h2⟩ := fill_spec (E := E) (place' := fun k => some (k * i.size, i.size)) (fun _ _ h => h) hxs hH hcs (hinit ρ (Ren.le.refl ρ))
      refine ⟨_, 0, .cells cells e, fun g => .slice (some ⟨g, 0, none⟩) n n, rfl, fun ρ' hle => OR.row (h2.mono hle), fun u => ?_, fun ρ' g hg => ⟨g, 0, hg, rfl⟩⟩
      have hs : (sizeOf e).run P u = .ok i.size u := by simp [sizeOf, typeInfo, hi]
      have hzr : (zeroValue e).run P u = .ok x u := by simp [zeroValue, typeInfo, hi, hx]
      have hn : ¬ (n * i.size > 2 ^ 24) := by omega
      have hps : (ps.map fun (i, x) => (i, f x)).toList = ps.toList.map fun (i, x) => (i, f x) := Array.toList_map ..
      by_cases h0 : n * i.size = 0
      · have hc0 : Instr.fill (fun k => some (k * i.size, i.size)) ((Array.range (n * i.size)).map ((#[] : Array Value)[· % (#[] : Array Value).size]!)) (ps.toList.map fun (i, x) => (i, f x)) = some cells := by
          rw [h0] at h1 ⊢
          rw [show (Array.range 0).map ((#[] : Array Value)[· % (#[] : Array Value).size]!) = (Array.range 0).map (x.cells[· % x.cells.size]!) by simp]
          exact h1
        simp only [execOp, ho, Instr.buildSlice, Sem.run_bind, run_underlying hu, Result.andThen_ok, hs, hn, if_false, Sem.run_pure, if_pos h0, hps, hc0, Go.newRow, run_newObj]
        rfl
      · simp only [execOp, ho, Instr.buildSlice, Sem.run_bind, run_underlying hu, Result.andThen_ok, hs, hn, if_false, Sem.run_pure, h0, hzr, hps, h1, Go.newRow, run_newObj]
        rfl
    · cases hc
  · cases hc
theorem n_mkm {t : TypeId} {r : Option Operand} (ho : o.op = .makeMap t r) (hr' : r = none ∨ ∃ k n ud ue, r = some (.const (.int k n)) ∧ P.underlying t = some (.map ud ue)) (hf : ∀ c, f (.const c) = c) (hr : XOp.mkm.run fs call tm S = .ok (v, S')) : NewsG P E ρ S S' f o v := by
  obtain ⟨rfl, rfl⟩ := rok_ok hr
  refine ⟨_, 0, .map #[] 0, fun g => .map (some g), rfl, fun ρ' hle => ⟨#[], rfl, trivial⟩, fun u => ?_, fun ρ' g hg => ⟨g, 0, hg, rfl⟩⟩
  rcases hr' with rfl | ⟨k, n, ud, ue, rfl, hu⟩
  · simp only [execOp, ho, Instr.makeMap, Option.map_none, Sem.run_bind, Sem.run_pure, Result.andThen_ok, run_newObj]
    rfl
  · simp only [execOp, ho, Instr.makeMap, Option.map_some, hf, asInt, asIntOf, Sem.run_bind, run_underlying hu, Sem.run_pure, Result.andThen_ok, run_newObj]
    rfl

/-! ## what turns memory -/
theorem NewsG.eff (hS : HR E B ρ S w) (h : NewsG P E ρ S S' f o v) : EffG P E B ρ S w S' f o v := by
  obtain ⟨k, c, obj, mk, rfl, h1, h2, h3⟩ := h
  have hle := Ren.le_add (x := (w.heap.size, c)) hS.next_none
  exact ⟨_, _, _, _, h2 w, .inl rfl, h3 _ _ (Ren.add_same _ _ _), hS.new k c obj (h1 _ hle), Ext.new hS k c obj⟩
theorem ReadG.eff (hS : HR E B ρ S w) (h : ReadG P E ρ S S' f o w v) : EffG P E B ρ S w S' f o v := by
  obtain ⟨rfl, x, hx, hr⟩ := h
  exact ⟨ρ, x, w, _, hr, .inl rfl, hx, hS, Ext.refl B ρ _ w⟩
theorem PureG.eff (hS : HR E B ρ S w) (h : PureG P E ρ S S' f o v) : EffG P E B ρ S w S' f o v := by
  obtain ⟨rfl, x, hx, hr⟩ := h
  exact ⟨ρ, x, w, _, hr w, .inl rfl, hx, hS, Ext.refl B ρ _ w⟩
theorem setRow_ok {b e : Nat} {op : Option Nat} {u : AV} {x : Option (List AV)} (h : setRow S b e op u x = .ok (v, S')) : ∃ cs, x = some cs ∧ v = u ∧ S' = S.set b (.row cs e op) := by
  unfold setRow at h
  obtain ⟨cs, h1, h2⟩ := oif_eq_ok h
  rw [seqL_eq] at h2
  obtain ⟨h3, h4⟩ := rok_ok h2
  exact ⟨cs, h1, h3, h4⟩
theorem e_st (hS : HR E B ρ S w) {t n : TypeId} {a x : Operand} {aa xa : XA} (ho : o.op = .store t a x) (ha : Hop E ρ f tm a) (hx : Hop E ρ f tm x) (h1 : XA.of a = some aa) (h2 : XA.of x = some xa) (hn : cSize P t = some n)
    (hr : (XOp.st n aa xa).run fs call tm S = .ok (v, S')) : EffG P E B ρ S w S' f o v := by
  have hr : stA n S (ev aa tm) (ev xa tm) = .ok (v, S') := hr
  have hav := ha aa h1
  have hxv := hx xa h2
  unfold stA at hr
  split at hr
  · rename_i b off hb
    rw [hb] at hav
    obtain ⟨g, c, hg, hy⟩ := hav
    obtain ⟨k, hk, r1⟩ := oif_eq_ok hr
    split at r1
    · rename_i cs e op
      obtain ⟨c1, r2⟩ := cnd_eq_ok r1
      obtain ⟨c2, r3⟩ := cnd_eq_ok r2
      obtain ⟨cs', hcs, rfl, rfl⟩ := setRow_ok r3
      have c2 := Nat.eq_of_beq_eq_true c2
      rw [llen_eq] at c2
      have hcells := hxv.cells c1
      obtain ⟨w', hst, hH', hE'⟩ := hS.lay P hk hg hcs hcells (allOne_iff.1 c1)
      have hsz : (f x).cells.size = n := by rw [← Array.length_toList, ← hcells.length]; exact c2
      refine ⟨ρ, Go.undef, w', .skip, ?_, .inr ⟨rfl, rfl⟩, VR.undef E ρ, hH', hE'⟩
      simp only [execOp, ho, hy, Instr.storeAt, Instr.sureAddr, storeVar, Sem.run_bind, Sem.run_pure, Result.andThen_ok, run_size hn, hsz, ne_eq, not_true_eq_false, if_false, hst]
    · exact (err_ok r1).elim
  · exact (err_ok hr).elim
theorem e_rgm (hS : HR E B ρ S w) {t a b : TypeId} {x : Operand} {xa : XA} (ho : o.op = .range t x) (hx : Hop E ρ f tm x) (h2 : XA.of x = some xa) (hu : P.underlying t = some (.map a b)) (hr : (XOp.rgm xa).run fs call tm S = .ok (v, S')) : EffG P E B ρ S w S' f o v := by
  have hr : rgmA S (ev xa tm) = .ok (v, S') := hr
  have hv := hx xa h2
  unfold rgmA at hr
  split at hr
  · rename_i hb
    rw [hb] at hv
    simp only [VR] at hv
    obtain ⟨rfl, rfl⟩ := rok_ok hr
    refine ⟨_, _, w.alloc (.mapIter none 0 #[] 0), _, ?_, .inl rfl, ⟨w.heap.size, 0, Ren.add_same _ _ _, rfl⟩, hS.new (.mit none 0) 0 _ rfl, Ext.new hS (.mit none 0) 0 _⟩
    simp only [execOp, ho, hv, Instr.range, Sem.run_bind, run_underlying hu, Sem.run_pure, Result.andThen_ok, run_newObj]
    rfl
  · rename_i r hb
    rw [hb] at hv
    obtain ⟨g, c, hg, hy⟩ := hv
    obtain ⟨p, h1, h3⟩ := oif_eq_ok hr
    obtain ⟨rfl, rfl⟩ := rok_ok h3
    have hblk : S.heap.get r = some (.map p.1 p.2) := by
      unfold mapOf at h1
      cases hgg : S.heap.get r with
      | none => rw [hgg] at h1; cases h1
      | some k => rw [hgg] at h1; cases k <;> first | (cases h1; rfl) | cases h1
    obtain ⟨_, ob, hob, ms, rfl, hms⟩ := hS.blk r _ g c hblk hg
    have hget : (getObj g).run P w = .ok (.map ms p.2) w := by simp [getObj, Sem.run, hob]
    refine ⟨_, _, w.alloc (.mapIter (some g) p.2 #[] p.2), _, ?_, .inl rfl, ⟨w.heap.size, 0, Ren.add_same _ _ _, rfl⟩, hS.new (.mit (some r) p.2) 0 _ ⟨g, c, Ren.le_add hS.next_none _ _ hg, rfl⟩, Ext.new hS (.mit (some r) p.2) 0 _⟩
    simp only [execOp, ho, hy, Instr.range, Sem.run_bind, run_underlying hu, Sem.run_pure, Result.andThen_ok, run_newObj, hget]
    rfl
  · exact (err_ok hr).elim
theorem e_nxt (hS : HR E B ρ S w) {x : Operand} {xa : XA} (ho : o.op = .next x false) (hx : Hop E ρ f tm x) (h2 : XA.of x = some xa) (hr : (XOp.nxt xa).run fs call tm S = .ok (v, S')) : EffG P E B ρ S w S' f o v := by
  have hr : nxtA S (ev xa tm) = .ok (v, S') := hr
  have hv := hx xa h2
  unfold nxtA at hr
  split at hr
  · rename_i b hb
    rw [hb] at hv
    obtain ⟨g, c, hg, hy⟩ := hv
    obtain ⟨k, hk, r1⟩ := oif_eq_ok hr
    split at r1
    · obtain ⟨rfl, rfl⟩ := rok_ok r1
      obtain ⟨_, ob, hob, hor⟩ := hS.blk b _ g c hk hg
      have hor : ob = .mapIter none 0 #[] 0 := hor
      subst hor
      have hget : (getObj g).run P w = .ok (.mapIter none 0 #[] 0) w := by simp [getObj, Sem.run, hob]
      refine ⟨ρ, .tuple #[.bool false], w, _, ?_, .inl rfl, ⟨_, rfl, rfl, trivial⟩, hS, Ext.refl B ρ _ w⟩
      simp only [execOp, ho, hy, Instr.next, Sem.run_bind, hget, Sem.run_pure, Result.andThen_ok]
    · rename_i r k
      obtain ⟨p, h1, h3⟩ := oif_eq_ok r1
      have hblk : S.heap.get r = some (.map p.1 p.2) := by
        unfold mapOf at h1
        cases hgg : S.heap.get r with
        | none => rw [hgg] at h1; cases h1
        | some k => rw [hgg] at h1; cases k <;> first | (cases h1; rfl) | cases h1
      split at h3
      · rename_i he
        obtain ⟨rfl, rfl⟩ := rok_ok h3
        obtain ⟨_, ob, hob, hor⟩ := hS.blk b _ g c hk hg
        obtain ⟨gm, cm, hgm, hor⟩ := hor
        subst hor
        obtain ⟨_, om, hom, ms, rfl, hms⟩ := hS.blk r _ gm cm hblk hgm
        rw [he] at hms
        have hms0 : ms = #[] := by
          have : ms.toList = [] := by
            cases hl : ms.toList with
            | nil => rfl
            | cons _ _ => rw [hl] at hms; exact hms.elim
          exact Array.toList_inj.1 (by simpa using this)
        subst hms0
        have hget : (getObj g).run P w = .ok (.mapIter (some gm) k #[] k) w := by simp [getObj, Sem.run, hob]
        have hget2 : (getObj gm).run P w = .ok (.map #[] p.2) w := by simp [getObj, Sem.run, hom]
        refine ⟨ρ, .tuple #[.bool false], w, _, ?_, .inl rfl, ⟨_, rfl, rfl, trivial⟩, hS, Ext.refl B ρ _ w⟩
        have hch : (choose (.mapNext 1)).run P w = .ok 0 w := by simp [choose, Sem.run, Question.forced, Question.cut]
        have hn : (Instr.next (.pointer (some ⟨g, 0, none⟩)) false o.type).run P w = .ok (.tuple #[.bool false]) w := by
          simp [Instr.next, Sem.run_bind, hget, hget2, hch, Result.andThen, Question.forced]
        simp only [execOp, ho, hy, Sem.run_bind, hn, Sem.run_pure, Result.andThen_ok]
      · exact (err_ok h3).elim
    · exact (err_ok r1).elim
  · exact (err_ok hr).elim
theorem setE_spec {e : Ent} : ∀ {i : Nat} {es es' : List Ent}, setE e i es = some es' → es' = es.set i e ∧ i < es.length
  | 0, [], es', h => by cases h
  | 0, x :: l, es', h => by cases h; exact ⟨rfl, by simp⟩
  | i + 1, [], es', h => by cases h
  | i + 1, x :: l, es', h => by
    have h : oif (setE e i l) none (fun r => some (x :: r)) = some es' := h
    cases hs : setE e i l with
    | none => rw [hs] at h; cases h
    | some r =>
      rw [hs] at h
      cases h
      obtain ⟨h1, h2⟩ := setE_spec hs
      exact ⟨by rw [h1]; rfl, by simpa using h2⟩
theorem EntsR.append {es es' : List Ent} {ms ms' : List MapEntry} (h : EntsR E ρ es ms) (h' : EntsR E ρ es' ms') : EntsR E ρ (es ++ es') (ms ++ ms') := by
  induction es generalizing ms with
  | nil => cases ms with
    | nil => exact h'
    | cons _ _ => exact h.elim
  | cons e es ih => cases ms with
    | nil => exact h.elim
    | cons m ms => obtain ⟨h1, h2, h3, h4⟩ := h; exact ⟨h1, h2, h3, ih h4⟩
theorem EntsR.set {es : List Ent} {ms : List MapEntry} {e : Ent} {m : MapEntry} (h : EntsR E ρ es ms) (i : Nat) (h1 : VR E ρ e.key m.key) (h2 : VR E ρ e.val m.val) (h3 : m.born = e.born) : EntsR E ρ (es.set i e) (ms.set i m) := by
  induction es generalizing ms i with
  | nil => cases ms with
    | nil => trivial
    | cons _ _ => exact h.elim
  | cons a es ih => cases ms with
    | nil => exact h.elim
    | cons b ms =>
      obtain ⟨a1, a2, a3, a4⟩ := h
      cases i with
      | zero => exact ⟨h1, h2, h3, a4⟩
      | succ i => exact ⟨a1, a2, a3, ih a4 i⟩
theorem setMap_ok {r c : Nat} {u : AV} {es : List Ent} (h : setMap S r c u es = .ok (v, S')) : v = u ∧ S' = S.set r (.map es c) := by
  unfold setMap at h
  rw [seqL_eq, seqN_eq] at h
  exact rok_ok h
theorem setObj_world (w : World) (g : Nat) (ob : Obj) {o0 : Obj} (h : w.heap[g]? = some o0) : ({ w with heap := w.heap.setIfInBounds g ob } : World).heap[g]? = some ob ∧ (∀ j, j ≠ g → ({ w with heap := w.heap.setIfInBounds g ob } : World).heap[j]? = w.heap[j]?) ∧ ({ w with heap := w.heap.setIfInBounds g ob } : World).heap.size = w.heap.size := by
  have hg := (Array.getElem?_eq_some_iff.1 h).1
  refine ⟨by simp [hg], fun j hj => by simp [Array.getElem?_setIfInBounds_ne (Ne.symm hj)], by simp⟩
theorem e_mup (hS : HR E B ρ S w) {t e : TypeId} {kk : KK} {m k x : Operand} {ma ka xa : XA} (ho : o.op = .mapUpdate t m k x ∨ o.op = .insert t m k x) (hm : Hop E ρ f tm m) (hk : Hop E ρ f tm k) (hx : Hop E ρ f tm x) (h1 : XA.of m = some ma) (h2 : XA.of k = some ka) (h3 : XA.of x = some xa)
    (hc : cMapKey P t = some (kk, e)) (hr : (XOp.mup kk ma ka xa).run fs call tm S = .ok (v, S')) : EffG P E B ρ S w S' f o v := by
  have hr : seqV (ev xa tm) (fun z => seqV (ev ka tm) fun k => mupA kk S (ev ma tm) k z) = .ok (v, S') := hr
  rw [seqV_eq, seqV_eq] at hr
  have hmv := hm ma h1
  have hkv := hk ka h2
  have hxv := hx xa h3
  obtain ⟨kt, d, hu, hud, hd⟩ := cMapKey_spec hc
  unfold mupA at hr
  split at hr
  · rename_i r hb
    rw [hb] at hmv
    obtain ⟨g, c, hg, hy⟩ := hmv
    obtain ⟨p, hp, r1⟩ := oif_eq_ok hr
    obtain ⟨q, hq, r2⟩ := oif_eq_ok r1
    obtain ⟨hko, hq⟩ := findE_ok hq
    obtain ⟨ms, hms, hers⟩ := hS.map (mapOf_spec hp) hg
    have hfs := find_run hkv hko hud hd hers hq w
    have hset : ∀ ob, (setObj g ob).run P w = .ok () { w with heap := w.heap.setIfInBounds g ob } := fun ob => by simp [setObj, Sem.run, hms]
    have fin : ∀ (es : List Ent) (ms' : Array MapEntry) (cl : Nat), v = undefA → S' = S.set r (.map es cl) → EntsR E ρ es ms'.toList → (Instr.mapUpdate t (.map (some g)) (f k) (f x)).run P w = .ok () { w with heap := w.heap.setIfInBounds g (.map ms' cl) } → EffG P E B ρ S w S' f o v := by
      intro es ms' cl hv hS' he hrun
      subst hv; subst hS'
      obtain ⟨a1, a2, a3⟩ := setObj_world w g (.map ms' cl) hms
      refine ⟨ρ, Go.undef, _, .skip, ?_, .inr ⟨rfl, rfl⟩, VR.undef E ρ, hS.set (mapOf_spec hp) hg a3 a1 a2 ⟨ms', rfl, he⟩, Ext.set hS (mapOf_spec hp) hg a3 a2 rfl rfl rfl⟩
      rcases ho with ho | ho <;> simp only [execOp, ho, hy, Sem.run_bind, hrun, Result.andThen_ok, Sem.run_pure]
    unfold putE at r2
    cases q with
    | none =>
      have hfs : (Instr.findKey kt (f k) ms.toList).run P w = .ok none w := hfs
      obtain ⟨hv, hS'⟩ := setMap_ok r2
      refine fin _ (ms.push { key := f k, val := f x, born := p.2 }) _ hv hS' ?_ ?_
      · rw [Array.toList_push]
        exact hers.append ⟨hkv, hxv, rfl, trivial⟩
      · simp only [Instr.mapUpdate, Sem.run_bind, run_underlying hu, Result.andThen_ok, get_map hms, run_checkKey hkv hko hud hd, hfs, Sem.run_pure, hset]
    | some q =>
      obtain ⟨i, en⟩ := q
      obtain ⟨m', b1, b2, b3, b4, b5, b6⟩ := hfs
      obtain ⟨es', hes, r3⟩ := oif_eq_ok r2
      obtain ⟨hv, hS'⟩ := setMap_ok r3
      obtain ⟨rfl, hi⟩ := setE_spec hes
      refine fin _ (ms.modify i fun e => { e with key := f k, val := f x }) _ hv hS' ?_ ?_
      · have : (ms.modify i fun e => { e with key := f k, val := f x }).toList = ms.toList.set i { m' with key := f k, val := f x } := by
          rw [Array.toList_modify]
          apply List.ext_getElem?
          intro j
          rw [List.getElem?_modify, List.getElem?_set]
          by_cases hj : i = j
          · subst hj; simp [b1]; have := (List.getElem?_eq_some_iff.1 b1).1; simpa using this
          · simp [hj]
        rw [this]
        exact hers.set i hkv hxv b5
      · have hkey : (((ms[i]?).map (·.key)).getD (f k)) = m'.key := by
          rw [← Array.getElem?_toList, b1]; rfl
        simp only [Instr.mapUpdate, Sem.run_bind, run_underlying hu, Result.andThen_ok, get_map hms, run_checkKey hkv hko hud hd, b2, Sem.run_pure, Instr.keyThatStays, hkey, b6, if_true, hset]
  · exact (err_ok hr).elim
theorem delE_eq : ∀ (i : Nat) (es : List Ent), delE i es = es.eraseIdx i
  | 0, [] => rfl
  | 0, _ :: _ => rfl
  | i + 1, [] => rfl
  | i + 1, x :: l => by
    show x :: delE i l = x :: l.eraseIdx i
    rw [delE_eq i l]
theorem EntsR.erase : ∀ {es : List Ent} {ms : List MapEntry}, EntsR E ρ es ms → ∀ i, EntsR E ρ (es.eraseIdx i) (ms.eraseIdx i)
  | [], [], _, i => by simp [EntsR]
  | _ :: _, _ :: _, ⟨h1, h2, h3, h4⟩, 0 => h4
  | _ :: _, _ :: _, ⟨h1, h2, h3, h4⟩, i + 1 => ⟨h1, h2, h3, h4.erase i⟩
theorem e_del (hS : HR E B ρ S w) {c : Call} {t e : TypeId} {kk : KK} {ts : List TypeId} {ma ka : XA} (ho : o.op = .call c) (hb : c.callee = .builtin .delete) (hH : ∀ x ∈ c.args.toList, Hop E ρ f tm x) (ha : XA.ofs c.args.toList = some [ma, ka]) (ht : c.argTypes.toList = t :: ts)
    (hc : cMapKey P t = some (kk, e)) (hr : (XOp.del kk ma ka).run fs call tm S = .ok (v, S')) : EffG P E B ρ S w S' f o v := by
  have hr : delA kk S (ev ma tm) (ev ka tm) = .ok (v, S') := hr
  obtain ⟨m, k, hx, h1, h2⟩ := ofs_args2 ha
  have hmv := hH m (by rw [hx]; simp) ma h1
  have hkv := hH k (by rw [hx]; simp) ka h2
  have h0 : c.argTypes[0]? = some t := by rw [← Array.getElem?_toList, ht]; rfl
  obtain ⟨cs, hex⟩ := exec_builtin (P := P) (f := f) ho hb
  obtain ⟨kt, d, hu, hud, hd⟩ := cMapKey_spec hc
  have key : ∀ (y : Value) (w' : World), f m = y → (Builtin.delete_ c.argTypes o.type #[y, f k]).run P w = .ok (.tuple #[]) w' → (execOp f o).run P w = .ok (.value (.tuple #[])) w' := fun y w' hy hl => by
    rw [hex w, hx]
    simp only [List.map_toArray, List.map_cons, List.map_nil, hy, builtin, Sem.run_bind, hl, Result.andThen_ok, Sem.run_pure]
  unfold delA at hr
  split at hr
  · rename_i hb2
    rw [hb2] at hmv
    simp only [VR] at hmv
    obtain ⟨hko, r1⟩ := cnd_eq_ok hr
    obtain ⟨rfl, rfl⟩ := rok_ok r1
    refine ⟨ρ, _, w, _, key _ _ hmv ?_, .inl rfl, VR.undef E ρ, hS, Ext.refl B ρ _ w⟩
    simp only [Builtin.delete_, h0, List.getElem?_toArray, List.getElem?_cons_zero, List.getElem?_cons_succ, Sem.run_bind, run_underlying hu, Result.andThen_ok, Sem.run_pure, run_checkKey hkv hko hud hd]
  · rename_i r hb2
    rw [hb2] at hmv
    obtain ⟨g, cc, hg, hy⟩ := hmv
    obtain ⟨p, hp, r1⟩ := oif_eq_ok hr
    obtain ⟨q, hq, r2⟩ := oif_eq_ok r1
    obtain ⟨hko, hq⟩ := findE_ok hq
    obtain ⟨ms, hms, hers⟩ := hS.map (mapOf_spec hp) hg
    have hfs := find_run hkv hko hud hd hers hq w
    have hset : ∀ ob, (setObj g ob).run P w = .ok () { w with heap := w.heap.setIfInBounds g ob } := fun ob => by simp [setObj, Sem.run, hms]
    cases q with
    | none =>
      have hfs : (Instr.findKey kt (f k) ms.toList).run P w = .ok none w := hfs
      obtain ⟨rfl, rfl⟩ := rok_ok r2
      have hw : ({ w with heap := w.heap.setIfInBounds g (.map ms p.2) } : World) = w := by
        have : w.heap.setIfInBounds g (.map ms p.2) = w.heap := by
          apply Array.ext_getElem?
          intro j
          by_cases hj : g = j
          · subst hj; rw [hms, Array.getElem?_setIfInBounds_self_of_lt (Array.getElem?_eq_some_iff.1 hms).1]
          · rw [Array.getElem?_setIfInBounds_ne hj]
        rw [this]
      refine ⟨ρ, _, w, _, key _ _ hy ?_, .inl rfl, VR.undef E ρ, hS, Ext.refl B ρ _ w⟩
      simp only [Builtin.delete_, h0, List.getElem?_toArray, List.getElem?_cons_zero, List.getElem?_cons_succ, Sem.run_bind, run_underlying hu, Result.andThen_ok, Sem.run_pure, get_map hms, run_checkKey hkv hko hud hd, hfs, hset, hw]
    | some q =>
      obtain ⟨i, en⟩ := q
      obtain ⟨m', b1, b2, b3, b4, b5, b6⟩ := hfs
      obtain ⟨hv, hS'⟩ := setMap_ok r2
      subst hv; subst hS'
      obtain ⟨a1, a2, a3⟩ := setObj_world w g (.map (ms.eraseIdxIfInBounds i) p.2) hms
      refine ⟨ρ, _, _, _, key _ _ hy ?_, .inl rfl, VR.undef E ρ, hS.set (mapOf_spec hp) hg a3 a1 a2 ⟨_, rfl, ?_⟩, Ext.set hS (mapOf_spec hp) hg a3 a2 rfl rfl rfl⟩
      · simp only [Builtin.delete_, h0, List.getElem?_toArray, List.getElem?_cons_zero, List.getElem?_cons_succ, Sem.run_bind, run_underlying hu, Result.andThen_ok, Sem.run_pure, get_map hms, run_checkKey hkv hko hud hd, b2, hset]
      · have hi : i < ms.size := by have := (List.getElem?_eq_some_iff.1 b1).1; simpa using this
        have : (ms.eraseIdxIfInBounds i).toList = ms.toList.eraseIdx i := by
          rw [Array.eraseIdxIfInBounds_eq]
          rw [dif_pos hi]
          simp
        rw [this, delE_eq]
        exact hers.erase i
  · exact (err_ok hr).elim
theorem e_clr (hS : HR E B ρ S w) {c : Call} {t e n : TypeId} {z : List AV} {ts : List TypeId} {xa : XA} (ho : o.op = .call c) (hb : c.callee = .builtin .clear) (hH : ∀ x ∈ c.args.toList, Hop E ρ f tm x) (ha : XA.ofs c.args.toList = some [xa]) (ht : c.argTypes.toList = t :: ts)
    (hsl : cSlice P t = some (e, n, z)) (hr : (XOp.clr n z xa).run fs call tm S = .ok (v, S')) : EffG P E B ρ S w S' f o v := by
  have hr : clrA n z S (ev xa tm) = .ok (v, S') := hr
  obtain ⟨x, hx, hxa⟩ := ofs_args1 ha
  have hv := hH x (by rw [hx]; simp) xa hxa
  have h0 : c.argTypes[0]? = some t := by rw [← Array.getElem?_toList, ht]; rfl
  obtain ⟨cs, hex⟩ := exec_builtin (P := P) (f := f) ho hb
  obtain ⟨hu, i, hi, rfl, hz, hpos, _⟩ := cSlice_spec hsl
  have key : ∀ (y : Value) (w' : World), f x = y → (Builtin.clear_ c.argTypes o.type #[y]).run P w = .ok (.tuple #[]) w' → (execOp f o).run P w = .ok (.value (.tuple #[])) w' := fun y w' hy hl => by
    rw [hex w, hx]
    simp only [List.map_toArray, List.map_cons, List.map_nil, hy, builtin, Sem.run_bind, hl, Result.andThen_ok, Sem.run_pure]
  have hnone : ∀ (a : Option Addr) (c' : Nat), (Builtin.clear_ c.argTypes o.type #[.slice a 0 c']).run P w = .ok (.tuple #[]) w := fun a c' => by
    cases a <;> simp only [Builtin.clear_, h0, List.getElem?_toArray, List.getElem?_cons_zero, Sem.run_bind, run_underlying hu, Result.andThen_ok, Sem.run_pure]
  unfold clrA at hr
  split at hr
  · rename_i hb2
    rw [hb2] at hv
    simp only [VR] at hv
    obtain ⟨rfl, rfl⟩ := rok_ok hr
    exact ⟨ρ, _, w, _, key _ _ hv (hnone _ _), .inl rfl, VR.undef E ρ, hS, Ext.refl B ρ _ w⟩
  · rename_i hb2
    rw [hb2] at hv
    obtain ⟨a, c', hy⟩ := hv
    obtain ⟨rfl, rfl⟩ := rok_ok hr
    exact ⟨ρ, _, w, _, key _ _ hy (hnone _ _), .inl rfl, VR.undef E ρ, hS, Ext.refl B ρ _ w⟩
  · rename_i b off m cp hb2
    rw [hb2] at hv
    obtain ⟨g, cc, hg, hy⟩ := hv
    obtain ⟨k, hk, r1⟩ := oif_eq_ok hr
    split at r1
    · rename_i cs' e' op
      obtain ⟨cs2, hcs, rfl, rfl⟩ := setRow_ok r1
      obtain ⟨i', zx, hi', hzx, hzv, hz1, hzl⟩ := cZero_spec (E := E) (ρ := ρ) hz
      rw [hi] at hi'; cases hi'
      have hone : ∀ a ∈ reps z m, a.one = true := by
        have : ∀ n, ∀ a ∈ reps z n, a.one = true := by
          intro n
          induction n with
          | zero => intro a ha; cases ha
          | succ n ih => intro a ha; rw [reps_succ] at ha; exact (List.mem_append.1 ha).elim (hz1 a) (ih a)
        exact this m
      obtain ⟨w', hst, hH', hE'⟩ := hS.lay P hk hg hcs (reps_VRs hzv m) hone
      refine ⟨ρ, _, w', _, key _ _ hy ?_, .inl rfl, VR.undef E ρ, hH', hE'⟩
      have hzr : (zeroValue e).run P w = .ok zx w := by simp [zeroValue, typeInfo, hi, hzx]
      have hcells : (Builtin.zeroCells zx.cells m).toList = (List.replicate m zx.cells.toList).flatten := by
        unfold Builtin.zeroCells
        rw [Array.toList_map, Array.toList_range, reps_eq]
      cases m with
      | zero =>
        have e1 : (storeCells ⟨g, off, none⟩ (List.replicate 0 zx.cells.toList).flatten 0).run P w = .ok () w := rfl
        rw [e1] at hst
        cases hst
        exact hnone _ _
      | succ m =>
        simp only [Builtin.clear_, h0, List.getElem?_toArray, List.getElem?_cons_zero, Sem.run_bind, run_underlying hu, Result.andThen_ok, Sem.run_pure, hzr, hcells, hst]
    · exact (err_ok r1).elim
  · exact (err_ok hr).elim
end
end Go.Proofs.YtdimeaooekhkhaaGreat.AX
