/- Proved: slice expressions, struct and array literals, as they are laid out for the runner. No function of the program is walked here. -/
import Derived.Test.YtdimeaooekhkhaaGreatAxOps3
set_option linter.unusedVariables false
set_option linter.unusedSimpArgs false
namespace Go.Proofs.YtdimeaooekhkhaaGreat.AX
open Go.RowKit

section
variable {P : Program} {E : Env} {B : Nat} {ρ : Ren} {S S' : St} {w : World} {f : Operand → Value} {tm : Tm} {fs : List Fact} {call : CallT} {v : AV} {o : Oper} {xo : XOp}

theorem run_sliceBound (k : IntKind) (n y : Nat) (code : BoundsCode) (h : n ≤ y) (u : World) : (Instr.sliceBound (.int k n) y code).run P u = .ok n u := by
  have : (0 : Int) ≤ (n : Int) ∧ (n : Int) ≤ (y : Int) := by omega
  simp only [Instr.sliceBound, asIntOf, Sem.run_bind, Sem.run_pure, Result.andThen_ok, this, and_self, if_true, Int.toNat_natCast]
/-- a bound that is left out, or one that is given -/
def Bnd (x : Option Value) (d n : Nat) : Prop := (x = none ∧ n = d) ∨ ∃ k, x = some (.int k n)
theorem bnd_spec {x : Option Operand} {xa : Option XA} {d n : Nat} (hx : ∀ y ∈ x, Hop E ρ f tm y) (ha : XA.ofO x = some xa) (h : bnd tm d xa = some n) : Bnd (x.map f) d n := by
  cases x with
  | none => cases ha; cases h; exact .inl ⟨rfl, rfl⟩
  | some y =>
    obtain ⟨a, h1, rfl⟩ := mapO ha
    obtain ⟨k, hk⟩ := natOf_spec (v := ev a tm) h
    have := hx y rfl a h1
    rw [hk] at this
    simp only [VR] at this
    exact .inr ⟨k, by simp [this]⟩
theorem run_sliceAt {t e : TypeId} {size : Nat} (hu : P.underlying t = some (.slice e)) (hs : cSize P e = some size) {a : Option Addr} {len cap l h m : Nat} {lo hi mx : Option Value} (hlo : Bnd lo 0 l) (hhi : Bnd hi len h) (hmx : Bnd mx cap m)
    (hc : mx.isSome = true → hi.isSome = true) (h1 : l ≤ h) (h2 : h ≤ m) (h3 : m ≤ cap) (u : World) :
    (Instr.sliceAt t (.slice a len cap) lo hi mx).run P u = .ok (.slice (if m = l then a else a.map (·.add (l * size))) (h - l) (m - l)) u := by
  have hb : (Instr.sliceBounds true len cap lo hi mx).run P u = .ok (l, h, m) u := by
    rcases hmx with ⟨rfl, rfl⟩ | ⟨k, rfl⟩ <;> rcases hhi with ⟨rfl, rfl⟩ | ⟨k', rfl⟩ <;> rcases hlo with ⟨rfl, rfl⟩ | ⟨k'', rfl⟩ <;>
      (try (simp at hc; done)) <;>
      simp only [Instr.sliceBounds, Sem.run_bind, Sem.run_pure, Result.andThen_ok, run_sliceBound _ _ _ _ h1, run_sliceBound _ _ _ _ h2, run_sliceBound _ _ _ _ h3]
  simp only [Instr.sliceAt, Instr.slice, Sem.run_bind, run_underlying hu, Result.andThen_ok, hb, run_size hs, Sem.run_pure]
theorem cSlice_spec {t e n : Nat} {z : List AV} (h : cSlice P t = some (e, n, z)) : P.underlying t = some (.slice e) ∧ ∃ i, P.info? e = some i ∧ i.size = n ∧ cZero P e = some z ∧ 0 < n ∧ i.bytes ≤ 1048576 := by
  unfold cSlice at h
  split at h
  · rename_i e' hu
    split at h
    · rename_i i z' hi hz
      split at h
      · rename_i hc
        cases h
        exact ⟨hu, i, hi, rfl, hz, hc.1, hc.2⟩
      · cases h
    · cases h
  · cases h
theorem cSlice_size {t e n : Nat} {z : List AV} (h : cSlice P t = some (e, n, z)) : cSize P e = some n := by
  obtain ⟨_, i, hi, rfl, _⟩ := cSlice_spec h
  simp [cSize, hi]
theorem mkSl_ok {b off len : Nat} {c : Cp} (h : mkSl S b off len c = .ok (v, S')) : v = .slice b off len c ∧ S' = S := by
  simp only [mkSl, seqN_eq] at h; exact rok_ok h
theorem slcX_spec {size b off c l h m g cc : Nat} (hr : ρ b = some (g, cc)) (hx : slcX size S b off c l h m = .ok (v, S')) : S' = S ∧ l ≤ h ∧ h ≤ m ∧ m ≤ c ∧ VR E ρ v (.slice (if m = l then some ⟨g, off, none⟩ else some ⟨g, off + l * size, none⟩) (h - l) (m - l)) := by
  unfold slcX at hx
  obtain ⟨h1, hx1⟩ := cnd_eq_ok hx
  obtain ⟨h2, hx2⟩ := cnd_eq_ok hx1
  obtain ⟨h3, hx3⟩ := cnd_eq_ok hx2
  have h1 : l ≤ h := by simpa using h1
  have h2 : h ≤ m := by simpa using h2
  have h3 : m ≤ c := by simpa using h3
  rw [cnd_eq] at hx3
  split at hx3
  · rename_i e
    have e := Nat.eq_of_beq_eq_true e
    obtain ⟨rfl, rfl⟩ := mkSl_ok hx3
    refine ⟨rfl, h1, h2, h3, g, cc, hr, ?_⟩
    rw [if_pos e]
    simp only [Cp.val, Nat.sub_eq]
    rw [show m - l = 0 by omega]
  · rename_i e
    have e : ¬ m = l := fun e' => e (by rw [e']; simp)
    rw [seqN_eq] at hx3
    obtain ⟨rfl, rfl⟩ := mkSl_ok hx3
    refine ⟨rfl, h1, h2, h3, g, cc, hr, ?_⟩
    rw [if_neg e]
    rfl
theorem p_slc (hS : HR E B ρ S w) {t e n : Nat} {z : List AV} {x : Operand} {lo hi mx : Option Operand} {xa : XA} {la ha ma : Option XA} (ho : o.op = .slice t x lo hi mx) (hx : Hop E ρ f tm x) (hlo : ∀ y ∈ lo, Hop E ρ f tm y) (hhi : ∀ y ∈ hi, Hop E ρ f tm y) (hmx : ∀ y ∈ mx, Hop E ρ f tm y)
    (h0 : XA.of x = some xa) (h1 : XA.ofO lo = some la) (h2 : XA.ofO hi = some ha) (h3 : XA.ofO mx = some ma) (hsl : cSlice P t = some (e, n, z)) (hmh : (ma.isSome && ha.isNone) = false)
    (hr : (XOp.slc n xa la ha ma).run fs call tm S = .ok (v, S')) : PureG P E ρ S S' f o v := by
  have hr : slcA tm n la ha ma S (ev xa tm) = .ok (v, S') := hr
  have hv := hx xa h0
  obtain ⟨hu, i, hi', hin, hz, hpos, _⟩ := cSlice_spec hsl
  have hsz := cSlice_size hsl
  have hopt : (mx.map f).isSome = true → (hi.map f).isSome = true := by
    have e1 : ma.isSome = mx.isSome := by cases mx with
      | none => cases h3; rfl
      | some y => obtain ⟨a, _, rfl⟩ := mapO h3; rfl
    have e2 : ha.isSome = hi.isSome := by cases hi with
      | none => cases h2; rfl
      | some y => obtain ⟨a, _, rfl⟩ := mapO h2; rfl
    rw [e1] at hmh
    cases hm : mx.isSome <;> cases hh : hi.isSome <;> simp_all
  have ex : ∀ (a : Option Addr) (len cap : Nat), f x = .slice a len cap → ∀ u, (execOp f o).run P u = ((Instr.sliceAt t (.slice a len cap) (lo.map f) (hi.map f) (mx.map f)).run P u).andThen fun y u' => .ok (.value y) u' := fun a len cap hy u => by
    simp only [execOp, ho, hy, Sem.run_bind, Sem.run_pure]
  unfold slcA at hr
  split at hr
  · rename_i hb
    rw [hb] at hv
    simp only [VR] at hv
    obtain ⟨l, hl, r1⟩ := oif_eq_ok hr
    obtain ⟨h, hh, r2⟩ := oif_eq_ok r1
    obtain ⟨m, hm, r3⟩ := oif_eq_ok r2
    obtain ⟨c1, r4⟩ := cnd_eq_ok r3
    obtain ⟨c2, r5⟩ := cnd_eq_ok r4
    obtain ⟨c3, r6⟩ := cnd_eq_ok r5
    have c1 := Nat.eq_of_beq_eq_true c1
    have c2 := Nat.eq_of_beq_eq_true c2
    have c3 := Nat.eq_of_beq_eq_true c3
    subst c1; subst c2; subst c3
    obtain ⟨rfl, rfl⟩ := rok_ok r6
    refine ⟨rfl, .slice none 0 0, rfl, fun u => ?_⟩
    rw [ex _ _ _ hv u, run_sliceAt hu hsz (bnd_spec hlo h1 hl) (bnd_spec hhi h2 hh) (bnd_spec hmx h3 hm) hopt (Nat.le_refl _) (Nat.le_refl _) (Nat.le_refl _) u]
    rfl
  · rename_i b off len c hb
    rw [hb] at hv
    obtain ⟨g, cc, hg, hy⟩ := hv
    obtain ⟨l, hl, r1⟩ := oif_eq_ok hr
    obtain ⟨h, hh, r2⟩ := oif_eq_ok r1
    obtain ⟨m, hm, r3⟩ := oif_eq_ok r2
    obtain ⟨rfl, a1, a2, a3, hvr⟩ := slcX_spec (E := E) hg r3
    have hy : f x = .slice (some ⟨g, off, none⟩) len c := hy
    refine ⟨rfl, _, hvr, fun u => ?_⟩
    rw [ex _ _ _ hy u, run_sliceAt hu hsz (bnd_spec hlo h1 hl) (bnd_spec hhi h2 hh) (bnd_spec hmx h3 hm) hopt a1 a2 a3 u]
    simp only [Result.andThen_ok, Option.map_some, add_off]
  · rename_i b off len k hb
    rw [hb] at hv
    obtain ⟨g, cc, hg, hy⟩ := hv
    obtain ⟨l, hl, r1⟩ := oif_eq_ok hr
    obtain ⟨h, hh, r2⟩ := oif_eq_ok r1
    obtain ⟨blk, hblk, r3⟩ := oif_eq_ok r2
    split at r3
    · rename_i cs e' s
      obtain ⟨c1, r4⟩ := cnd_eq_ok r3
      obtain ⟨c2, r5⟩ := cnd_eq_ok r4
      obtain ⟨c3, r6⟩ := cnd_eq_ok r5
      have c1 := Nat.eq_of_beq_eq_true c1
      have c2 := Nat.eq_of_beq_eq_true c2
      rw [seqN_eq, llen_eq, show Nat.div (Nat.sub cs.length off) n = (cs.length - off) / n from rfl] at r6
      have hy : f x = .slice (some ⟨g, off, none⟩) len (cc - k) := hy
      obtain ⟨vs, _, fz, hgw, _, _, hle, hszz⟩ := hS.row hblk hg
      have hszz : vs.size = cc * s ∧ cc ≤ maxLen := hszz
      have hkn : (cs.length - off) / n ≤ cc - k := by
        rw [Nat.div_le_iff_le_mul_add_pred hpos]
        have e1 : vs.size = cc * n := by rw [hszz.1, c1]
        have e2 : n * (cc - k) = cc * n - k * n := by rw [Nat.mul_sub, Nat.mul_comm n cc, Nat.mul_comm n k]
        rw [e2, c2]
        omega
      unfold slcO at r6
      cases ma with
      | none =>
        rw [oif_none] at r6
        obtain ⟨d1, r7⟩ := cnd_eq_ok r6
        obtain ⟨d2, r8⟩ := cnd_eq_ok r7
        have d1 : l ≤ h := by simpa using d1
        have d2 : h ≤ (cs.length - off) / n := by simpa using d2
        have hmm : Bnd (mx.map f) (cc - k) (cc - k) := bnd_spec (tm := tm) hmx h3 rfl
        have hrun := fun u => run_sliceAt (P := P) hu hsz (a := some ⟨g, off, none⟩) (bnd_spec hlo h1 hl) (bnd_spec hhi h2 hh) hmm hopt d1 (by omega) (Nat.le_refl _) u
        rw [cnd_eq] at r8
        split at r8
        · rename_i d3
          have d3 : l < (cs.length - off) / n := by simpa using d3
          rw [seqN_eq] at r8
          obtain ⟨rfl, rfl⟩ := mkSl_ok r8
          refine ⟨rfl, _, ⟨g, cc, hg, rfl⟩, fun u => ?_⟩
          rw [ex _ _ _ hy u, hrun u, if_neg (by omega)]
          simp only [Result.andThen_ok, Option.map_some, add_off, Nat.sub_sub, Nat.sub_eq, Cp.val]
        · rename_i d3
          have d3 : ¬ l < (cs.length - off) / n := by simpa using d3
          obtain ⟨rfl, rfl⟩ := rok_ok r8
          refine ⟨rfl, .slice (if cc - k = l then some ⟨g, off, none⟩ else (some ⟨g, off, none⟩ : Option Addr).map (·.add (l * n))) 0 (cc - k - l), ⟨_, _, rfl⟩, fun u => ?_⟩
          rw [ex _ _ _ hy u, hrun u, show h - l = 0 by omega]
          rfl
      | some mxa =>
        rw [oif_some] at r6
        obtain ⟨m, hm, r7⟩ := oif_eq_ok r6
        obtain ⟨rfl, a1, a2, a3, hvr⟩ := slcX_spec (E := E) hg r7
        have hmm : Bnd (mx.map f) (cc - k) m := bnd_spec (tm := tm) hmx h3 hm
        refine ⟨rfl, _, hvr, fun u => ?_⟩
        rw [ex _ _ _ hy u, run_sliceAt hu hsz (bnd_spec hlo h1 hl) (bnd_spec hhi h2 hh) hmm hopt a1 a2 (by omega) u]
        simp only [Result.andThen_ok, Option.map_some, add_off]
    · exact (err_ok r3).elim
  · exact (err_ok hr).elim

theorem run_sliceAt_arr {t e : TypeId} {n size : Nat} (hu : P.underlying t = some (.array n e)) (hs : cSize P e = some size) {a : Addr} {l h : Nat} {lo hi : Option Value} (h1 : Bnd lo 0 l) (h2 : Bnd hi n h) (hl : l ≤ h) (hh : h ≤ n) (u : World) :
    (Instr.sliceAt t (.pointer (some a)) lo hi none).run P u = .ok (.slice (some (if n = l then a else a.add (l * size))) (h - l) (n - l)) u := by
  have hb : (Instr.sliceBounds false n n lo hi none).run P u = .ok (l, h, n) u := by
    rcases h1 with ⟨rfl, rfl⟩ | ⟨k1, rfl⟩ <;> rcases h2 with ⟨rfl, rfl⟩ | ⟨k2, rfl⟩ <;>
      simp only [Instr.sliceBounds, Sem.run_bind, Sem.run_pure, Result.andThen_ok, run_sliceBound _ _ _ _ hl, run_sliceBound _ _ _ _ hh]
  simp only [Instr.sliceAt, Sem.run_bind, run_underlying hu, Result.andThen_ok, Instr.sureAddr, Sem.run_pure, hb, run_size hs]
theorem p_sla {t e n k : Nat} {x : Operand} {lo hi mx : Option Operand} {xa : XA} {la ha : Option XA} (ho : o.op = .slice t x lo hi mx) (hx : Hop E ρ f tm x) (hlo : ∀ y ∈ lo, Hop E ρ f tm y) (hhi : ∀ y ∈ hi, Hop E ρ f tm y)
    (h0 : XA.of x = some xa) (h1 : XA.ofO lo = some la) (h2 : XA.ofO hi = some ha) (h3 : XA.ofO mx = some none) (hu : P.underlying t = some (.array n e)) (hk : cSize P e = some k)
    (hr : (XOp.sla n k xa la ha).run fs call tm S = .ok (v, S')) : PureG P E ρ S S' f o v := by
  have hr : slaA tm n k la ha S (ev xa tm) = .ok (v, S') := hr
  have hv := hx xa h0
  have hmx : mx = none := by
    cases mx with
    | none => rfl
    | some y => obtain ⟨a, _, h⟩ := mapO h3; cases h
  subst hmx
  unfold slaA at hr
  split at hr
  · rename_i b off hb
    rw [hb] at hv
    obtain ⟨g, cc, hg, hy⟩ := hv
    obtain ⟨l, hl, r1⟩ := oif_eq_ok hr
    obtain ⟨h, hh, r2⟩ := oif_eq_ok r1
    obtain ⟨rfl, a1, a2, a3, hvr⟩ := slcX_spec (E := E) hg r2
    refine ⟨rfl, _, hvr, fun u => ?_⟩
    simp only [execOp, ho, hy, Option.map_none, Sem.run_bind, run_sliceAt_arr hu hk (bnd_spec hlo h1 hl) (bnd_spec hhi h2 hh) a1 a2 u, Result.andThen_ok, add_off, Sem.run_pure]
    split <;> rfl
  · exact (err_ok hr).elim

/-! ## literals -/
theorem of1_VR {x : Value} {a : AV} (h : AV.of1 x = some a) : VR E ρ a x ∧ a.one = true := by
  unfold AV.of1 at h
  split at h <;> cases h <;> (try exact ⟨rfl, rfl⟩)
  rename_i s
  refine ⟨⟨?_, fun n hn => ?_⟩, rfl⟩
  · simp only [mkS, List.map_map]
    congr 1
    apply ByteArray.ext
    simp only
    rw [show (UInt8.ofNat ∘ UInt8.toNat) = id from funext fun u => by simp, List.map_id, Array.toArray_toList]
  · obtain ⟨u, _, rfl⟩ := List.mem_map.1 hn
    exact u.toNat_lt
theorem ofs_VRs' : ∀ {l : List Value} {r : List AV}, AV.ofs l = some r → VRs E ρ r l ∧ (∀ a ∈ r, a.one = true)
  | [], r, h => by cases h; exact ⟨trivial, by simp⟩
  | x :: l, r, h => by
    unfold AV.ofs at h
    split at h
    · rename_i a r' h1 h2
      cases h
      obtain ⟨h3, h4⟩ := of1_VR (E := E) (ρ := ρ) h1
      obtain ⟨h5, h6⟩ := ofs_VRs' h2
      exact ⟨⟨h3, h5⟩, fun b hb => (List.mem_cons.1 hb).elim (fun e => e ▸ h4) (h6 b)⟩
    · cases h
theorem ofV_VR {x : Value} {a : AV} (h : AV.ofV x = some a) : VR E ρ a x := by
  unfold AV.ofV at h
  split at h
  · obtain ⟨l, hl, rfl⟩ := mapO h
    exact ⟨_, rfl, (ofs_VRs' hl).1⟩
  · exact (of1_VR h).1
theorem cZero_spec {t : TypeId} {z : List AV} (h : cZero P t = some z) : ∃ i x, P.info? t = some i ∧ i.zero = some x ∧ VRs E ρ z x.cells.toList ∧ (∀ a ∈ z, a.one = true) ∧ z.length = i.size := by
  unfold cZero at h
  split at h
  · rename_i i hi
    split at h
    · rename_i x hx
      split at h
      · rename_i l hl
        split at h
        · rename_i hlen
          cases h
          obtain ⟨h1, h2⟩ := ofs_VRs' (E := E) (ρ := ρ) hl
          exact ⟨i, x, hi, hx, h1, h2, hlen⟩
        · cases h
      · cases h
    · cases h
  · cases h
theorem VR.cells {a : AV} {x : Value} (h : VR E ρ a x) (ho : allOne a.cells = true) : VRs E ρ a.cells x.cells.toList := by
  cases a with
  | agg cs => obtain ⟨xs, rfl, h2⟩ := h; exact h2
  | _ =>
    have h1 := VR.one h (allOne_iff.1 ho _ (by simp [AV.cells]))
    cases x <;> first | (simp [Value.oneCell'] at h1; done) | exact ⟨h, trivial⟩
theorem foldl_set (off : Nat) : ∀ (l : List Value) (k : Nat) (cells : Array Value), off + k + l.length ≤ cells.size →
    ((l.zipIdx k).foldl (fun (cs : Array Value) (c, j) => cs.setIfInBounds (off + j) c) cells).toList = cells.toList.take (off + k) ++ l ++ cells.toList.drop (off + k + l.length)
  | [], k, cells, _ => by simp
  | x :: l, k, cells, h => by
    simp only [List.zipIdx_cons, List.foldl_cons]
    rw [foldl_set off l (k + 1) _ (by simp at h ⊢; omega)]
    have e := list_seg_step cells.toList (off + k) x l (by simp at h ⊢; omega)
    simpa [Array.toList_setIfInBounds, Nat.add_assoc] using e
/-- parts laid over cells: the runner's and the model's -/
theorem fill_spec {place place' : Nat → Option (Nat × Nat)} (hpl : ∀ i p, place i = some p → place' i = some p) : ∀ {ps : List (Nat × Operand)} {xs : List (Nat × Nat × XA)}, cParts place ps = some xs → (∀ p ∈ ps, Hop E ρ f tm p.2) → ∀ {cs cs' : List AV} {cells : Array Value}, fillA tm xs cs = some cs' → VRs E ρ cs cells.toList →
    ∃ cells', Instr.fill place' cells (ps.map fun (i, x) => (i, f x)) = some cells' ∧ VRs E ρ cs' cells'.toList
  | [], xs, h, _, cs, cs', cells, hf, hv => by
    cases h
    cases hf
    exact ⟨cells, rfl, hv⟩
  | (i, x) :: ps, xs, h, hH, cs, cs', cells, hf, hv => by
    unfold cParts at h
    split at h
    · rename_i off n a r h1 h2 h3
      cases h
      have hf : seqV (ev a tm) (fun v => cnd (allOne v.cells) (cnd (Nat.beq (llen v.cells) n) (oif (over? v.cells off cs) none (fillA tm r)) none) none) = some cs' := hf
      rw [seqV_eq] at hf
      rw [cnd_eq] at hf
      split at hf
      · rename_i hone
        rw [cnd_eq] at hf
        split at hf
        · rename_i hlen
          have hlen := Nat.eq_of_beq_eq_true hlen
          rw [llen_eq] at hlen
          cases hov : over? (ev a tm).cells off cs with
          | none => rw [hov] at hf; cases hf
          | some cs1 =>
            rw [hov] at hf
            have hf : fillA tm r cs1 = some cs' := hf
            obtain ⟨rfl, hfit⟩ := over?_spec _ _ _ _ hov
            have hx0 : VR E ρ (ev a tm) (f x) := hH (i, x) (by simp) a h2
            have hx := hx0.cells hone
            have hxl := hx.length
            have hcl := hv.length
            have hsz : (f x).cells.size = n := by rw [← Array.length_toList, ← hxl]; exact hlen
            simp only [List.map_cons, Instr.fill, hpl i _ h1]
            have hxl' : (ev a tm).cells.length = (f x).cells.size := by rw [hxl, Array.length_toList]
            have hcl' : cs.length = cells.size := by rw [hcl, Array.length_toList]
            have hA : off + (f x).cells.size ≤ cells.size := by rw [← hxl', ← hcl']; exact hfit
            have hcond : ¬ ((decide ((f x).cells.size ≠ n) || decide (off + (f x).cells.size > cells.size)) = true) := by
              simp [hsz]; omega
            rw [if_neg hcond]
            refine fill_spec hpl h3 (fun p hp => hH p (by simp [hp])) hf ?_
            have efold : ((f x).cells.zipIdx.foldl (fun (cs : Array Value) (c, j) => cs.setIfInBounds (off + j) c) cells).toList = cells.toList.take off ++ (f x).cells.toList ++ cells.toList.drop (off + (f x).cells.size) := by
              have := foldl_set off (f x).cells.toList 0 cells (by rw [Array.length_toList]; omega)
              rw [← Array.foldl_toList, Array.toList_zipIdx]
              simpa using this
            rw [efold]
            rw [← hxl']
            exact ((hv.take off).append hx).append (hv.drop (off + (ev a tm).cells.length))
        · cases hf
      · cases hf
    · cases h
theorem p_build {t : TypeId} {ps : Array (Nat × Operand)} (ho : o.op = .build t ps) (hH : ∀ p ∈ ps.toList, Hop E ρ f tm p.2) (hc : cBuild P t ps.toList = some xo) (hr : xo.run fs call tm S = .ok (v, S')) : PureG P E ρ S S' f o v := by
  have fin : ∀ {z : List AV} {xs : List (Nat × Nat × XA)} {place' : Nat → Option (Nat × Nat)}, (XOp.build z xs).run fs call tm S = .ok (v, S') → (∀ cs', fillA tm xs z = some cs' → ∃ cells, P.built t (ps.toList.map fun (i, x) => (i, f x)) = some cells ∧ VRs E ρ cs' cells.toList) → PureG P E ρ S S' f o v := by
    intro z xs place' hr hb
    have hr : okCells S (fillA tm xs z) = .ok (v, S') := hr
    obtain ⟨cs', h1, h2⟩ := oif_eq_ok hr
    rw [seqL_eq] at h2
    cases h2
    obtain ⟨cells, hbu, hv⟩ := hb cs' h1
    refine ⟨rfl, .agg cells, ⟨_, rfl, hv⟩, fun u => ?_⟩
    have hbu' : P.built t (ps.map fun (i, x) => (i, f x)).toList = some cells := by rw [Array.toList_map]; exact hbu
    simp only [execOp, ho, Sem.run_bind, run_build u t _ cells hbu', Result.andThen_ok, Sem.run_pure]
  unfold cBuild at hc
  split at hc
  · rename_i z fds hz hu
    split at hc
    case isFalse => cases hc
    rename_i hfs
    obtain ⟨xs, hxs, rfl⟩ := mapO hc
    refine fin (place' := fun _ => none) hr fun cs' hf => ?_
    obtain ⟨i, x, hi, hzx, hzv, _, _⟩ := cZero_spec (E := E) (ρ := ρ) hz
    have places : ∀ (l : List Field), (∀ fd ∈ l, ∃ i, P.info? fd.type = some i) → ∃ pl, l.mapM (fun fd => (P.info? fd.type).map fun i => (fd.offset, i.size)) = some pl ∧ ∀ (k : Nat) fd i, l[k]? = some fd → P.info? fd.type = some i → pl[k]? = some (fd.offset, i.size) := by
      intro l
      induction l with
      | nil => intro _; exact ⟨[], rfl, fun k fd i h => by simp at h⟩
      | cons a l ih =>
        intro hl
        obtain ⟨i, hi⟩ := hl a (by simp)
        obtain ⟨pl, h1, h2⟩ := ih (fun fd hfd => hl fd (by simp [hfd]))
        refine ⟨(a.offset, i.size) :: pl, by simp [List.mapM_cons, hi, h1], fun k fd i' hk hi' => ?_⟩
        cases k with
        | zero => simp at hk; subst hk; rw [hi] at hi'; cases hi'; rfl
        | succ k => simpa using h2 k fd i' (by simpa using hk) hi'
    have hall : fds.toList.all (fun fd => (P.info? fd.type).isSome) = true := hfs
    obtain ⟨pl, hpl1, hpl2⟩ := places fds.toList (fun fd hfd => Option.isSome_iff_exists.1 (List.all_eq_true.1 hall fd hfd))
    obtain ⟨cells, h1, h2⟩ := fill_spec (E := E) (place' := fun k => pl.toArray[k]?) (fun k p hp => by
      obtain ⟨⟨off, n, a⟩, hcf, rfl⟩ := mapO hp
      obtain ⟨fs', fl, hu', hfl, rfl, hsz, _⟩ := cField_spec hcf
      rw [hu] at hu'
      cases hu'
      obtain ⟨i', hi', rfl⟩ := mapO hsz
      have := hpl2 k fl i' (by rw [Array.getElem?_toList]; exact hfl) hi'
      simpa using this) hxs hH hf hzv
    exact ⟨cells, by simp only [Program.built, hi, hu, hzx, hpl1]; exact h1, h2⟩
  · rename_i z n e hz hu
    split at hc
    · rename_i size hs
      obtain ⟨xs, hxs, rfl⟩ := mapO hc
      refine fin (place' := fun _ => none) hr fun cs' hf => ?_
      obtain ⟨i, x, hi, hzx, hzv, _, _⟩ := cZero_spec (E := E) (ρ := ρ) hz
      obtain ⟨j, hj, rfl⟩ := mapO hs
      obtain ⟨cells, h1, h2⟩ := fill_spec (E := E) (place' := fun i => some (i * j.size, j.size)) (fun _ _ h => h) hxs hH hf hzv
      exact ⟨cells, by simp only [Program.built, hi, hu, hzx, hj]; exact h1, h2⟩
    · cases hc
  · cases hc
end
end Go.Proofs.YtdimeaooekhkhaaGreat.AX
