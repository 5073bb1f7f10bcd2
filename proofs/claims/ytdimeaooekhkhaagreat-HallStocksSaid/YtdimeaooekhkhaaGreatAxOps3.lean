/- Proved: each pure operation as it is laid out for the runner yields what the model's yields, in whatever world. No function of the program is walked here. -/
import Derived.Test.YtdimeaooekhkhaaGreatAxOps2
set_option linter.unusedVariables false
set_option linter.unusedSimpArgs false
namespace Go.Proofs.YtdimeaooekhkhaaGreat.AX
open Go.RowKit

section
variable {P : Program} {E : Env} {B : Nat} {ρ : Ren} {S S' : St} {w : World} {f : Operand → Value} {tm : Tm} {fs : List Fact} {call : CallT} {v : AV} {o : Oper} {xo : XOp}

/-- what holds of a pure operation -/
def PureG (P : Program) (E : Env) (ρ : Ren) (S S' : St) (f : Operand → Value) (o : Oper) (v : AV) : Prop := S' = S ∧ Yl P f o E ρ v

theorem p_mv {x : Operand} {a : XA} (ho : o.op = .move x ∨ o.op = .assign x) (hx : Hop E ρ f tm x) (ha : XA.of x = some a) (hr : (XOp.mv a).run fs call tm S = .ok (v, S')) : PureG P E ρ S S' f o v := by
  obtain ⟨rfl, rfl⟩ := rok_ok hr
  refine ⟨rfl, f x, hx a ha, fun u => ?_⟩
  rcases ho with ho | ho <;> simp only [execOp, ho, Sem.run_pure]
theorem p_pick {c x y : Operand} {ca xa ya : XA} (ho : o.op = .pick c x y) (hc : Hop E ρ f tm c) (hx : Hop E ρ f tm x) (hy : Hop E ρ f tm y) (h1 : XA.of c = some ca) (h2 : XA.of x = some xa) (h3 : XA.of y = some ya)
    (hr : (XOp.pick ca xa ya).run fs call tm S = .ok (v, S')) : PureG P E ρ S S' f o v := by
  have hr : pickA xa ya tm S (ev ca tm) = .ok (v, S') := hr
  have hcv := hc ca h1
  unfold pickA at hr
  split at hr
  · rename_i b hb
    rw [hb] at hcv
    simp only [VR] at hcv
    cases b with
    | true =>
      obtain ⟨rfl, rfl⟩ := rok_ok hr
      exact ⟨rfl, f x, hx xa h2, fun u => by simp [execOp, ho, hcv, asBool]⟩
    | false =>
      obtain ⟨rfl, rfl⟩ := rok_ok hr
      exact ⟨rfl, f y, hy ya h3, fun u => by simp [execOp, ho, hcv, asBool]⟩
  · exact (err_ok hr).elim
theorem p_nck {x : Operand} {a : XA} (ho : o.op = .nilCheck x) (hx : Hop E ρ f tm x) (ha : XA.of x = some a) (hr : (XOp.nck a).run fs call tm S = .ok (v, S')) : PureG P E ρ S S' f o v := by
  have hr : nckA S (ev a tm) = .ok (v, S') := hr
  have hv := hx a ha
  unfold nckA at hr
  split at hr
  · rename_i b off hb
    rw [hb] at hv
    obtain ⟨rfl, rfl⟩ := rok_ok hr
    obtain ⟨g, c, h1, h2⟩ := hv
    exact ⟨rfl, _, ⟨g, c, h1, rfl⟩, fun u => by simp [execOp, ho, h2]⟩
  · rename_i g hb
    rw [hb] at hv
    obtain ⟨rfl, rfl⟩ := rok_ok hr
    simp only [VR] at hv
    exact ⟨rfl, _, rfl, fun u => by simp [execOp, ho, hv]⟩
  · rename_i g xs ys hb
    rw [hb] at hv
    obtain ⟨rfl, rfl⟩ := rok_ok hr
    obtain ⟨p, q, h1, h2, h3⟩ := hv
    exact ⟨rfl, _, ⟨p, q, rfl, h2, h3⟩, fun u => by simp [execOp, ho, h1]⟩
  · exact (err_ok hr).elim
theorem p_bin (hf : FactsOK E fs) {op : BinOp} {t yt : TypeId} {x y : Operand} {xa ya : XA} (ho : o.op = .binOp op t x y yt) (hx : Hop E ρ f tm x) (hy : Hop E ρ f tm y) (h2 : XA.of x = some xa) (h3 : XA.of y = some ya)
    (hr : (XOp.bin op (cEq P op t) xa ya).run fs call tm S = .ok (v, S')) : PureG P E ρ S S' f o v := by
  obtain ⟨h1, z, hz, hrun⟩ := binA_spec (P := P) hf (hx xa h2) (hy ya h3) hr
  refine ⟨h1, z, hz, fun u => ?_⟩
  have := hrun x y u
  simp only [execOp, ho, Sem.run_bind] at this ⊢
  rw [this]
  rfl
theorem p_un (hf : FactsOK E fs) {op : UnOp} {t : TypeId} {x : Operand} {xa : XA} (ho : o.op = .unOp op t x) (hx : Hop E ρ f tm x) (h2 : XA.of x = some xa) (hr : (XOp.un op xa).run fs call tm S = .ok (v, S')) : PureG P E ρ S S' f o v := by
  obtain ⟨h1, z, hz, hrun⟩ := unA_spec (P := P) hf (hx xa h2) hr
  exact ⟨h1, z, hz, fun u => by simp only [execOp, ho, Sem.run_bind, hrun u, Result.andThen_ok, Sem.run_pure]⟩
theorem p_mkf {fn : Fn} {as bs : Array Operand} {xs ys : List XA} (ho : o.op = .makeFunc fn as bs) (ha : ∀ x ∈ as.toList, Hop E ρ f tm x) (hb : ∀ x ∈ bs.toList, Hop E ρ f tm x) (h1 : XA.ofs as.toList = some xs) (h2 : XA.ofs bs.toList = some ys)
    (hr : (XOp.mkf fn xs ys).run fs call tm S = .ok (v, S')) : PureG P E ρ S S' f o v := by
  have hr : evs tm xs (fun a => evs tm ys fun b => rok (.fn fn a b) S) = .ok (v, S') := hr
  rw [evs_eq, evs_eq] at hr
  obtain ⟨rfl, rfl⟩ := rok_ok hr
  refine ⟨rfl, .func fn (as.map f) (bs.map f), ⟨_, _, rfl, ?_, ?_⟩, fun u => ?_⟩
  · rw [Array.toList_map]; exact ofs_VRs h1 ha
  · rw [Array.toList_map]; exact ofs_VRs h2 hb
  · simp only [execOp, ho, Instr.makeFunc, Sem.run_bind, Sem.run_pure, Result.andThen_ok]
theorem p_cvi (hf : FactsOK E fs) {s d sd : TypeId} {x : Operand} {k : IntKind} {ud : TypeDesc} {xa : XA} (ho : o.op = .convert s d x) (hx : Hop E ρ f tm x) (h2 : XA.of x = some xa) (hs : P.underlying s = some ud) (hd : P.underlying d = some (.int k))
    (hr : (XOp.cvi k xa).run fs call tm S = .ok (v, S')) : PureG P E ρ S S' f o v := by
  have hr : cviA k fs S (ev xa tm) = .ok (v, S') := hr
  have hv := hx xa h2
  have conv : ∀ (j : IntKind) (n : Int) (u : World), (convert s d (.int j n)).run P u = .ok (.int k (k.wrap n)) u := fun j n u => by
    simp only [convert, Sem.run_bind, run_underlying hs, run_underlying hd, Result.andThen_ok, Conv.intToInt, Sem.run_pure]
  unfold cviA at hr
  split at hr
  · rename_i j n hb
    rw [hb] at hv
    simp only [VR] at hv
    obtain ⟨rfl, rfl⟩ := okI_ok hr
    exact ⟨rfl, _, rfl, fun u => by simp only [execOp, ho, hv, Sem.run_bind, conv, Result.andThen_ok, Sem.run_pure, wrapA_eq]⟩
  · rename_i j e hb
    rw [hb] at hv
    simp only [VR] at hv
    obtain ⟨rfl, rfl, hw⟩ := symI_ok hf hr
    exact ⟨rfl, _, rfl, fun u => by simp only [execOp, ho, hv, Sem.run_bind, conv, Result.andThen_ok, Sem.run_pure, hw]⟩
  · exact (err_ok hr).elim
theorem p_css {s d : TypeId} {x : Operand} {xa : XA} (ho : o.op = .convert s d x) (hx : Hop E ρ f tm x) (h2 : XA.of x = some xa) (hs : P.underlying s = some .string) (hd : P.underlying d = some .string)
    (hr : (XOp.css xa).run fs call tm S = .ok (v, S')) : PureG P E ρ S S' f o v := by
  have hr : cssA S (ev xa tm) = .ok (v, S') := hr
  have hv := hx xa h2
  unfold cssA at hr
  split at hr
  · rename_i l hb
    rw [hb] at hv
    obtain ⟨h1, h3⟩ := hv
    obtain ⟨rfl, rfl⟩ := rok_ok hr
    refine ⟨rfl, _, ⟨rfl, h3⟩, fun u => ?_⟩
    simp only [execOp, ho, h1, Sem.run_bind, convert, run_underlying hs, run_underlying hd, Result.andThen_ok, Sem.run_pure]
  · exact (err_ok hr).elim
theorem cField_spec {t : TypeId} {k off n : Nat} {a : Bool} (h : cField P t k = some (off, n, a)) : ∃ fs fl, P.underlying t = some (.struct fs) ∧ fs[k]? = some fl ∧ fl.offset = off ∧ cSize P fl.type = some n ∧ cAgg P fl.type = some a := by
  unfold cField at h
  split at h
  · rename_i fs hu
    split at h
    · rename_i fl hf
      split at h
      · rename_i n' a' h1 h2
        cases h
        exact ⟨fs, fl, hu, hf, rfl, h1, h2⟩
      · cases h
    · cases h
  · cases h
theorem p_fad {s : TypeId} {x : Operand} {k off n : Nat} {a : Bool} {xa : XA} (ho : o.op = .fieldAddr s x k) (hx : Hop E ρ f tm x) (h2 : XA.of x = some xa) (hc : cField P s k = some (off, n, a)) (hn : n ≠ 0)
    (hr : (XOp.fad off xa).run fs call tm S = .ok (v, S')) : PureG P E ρ S S' f o v := by
  have hr : fadA off S (ev xa tm) = .ok (v, S') := hr
  have hv := hx xa h2
  obtain ⟨fds, fl, hu, hfl, rfl, hsz, _⟩ := cField_spec hc
  unfold fadA at hr
  split at hr
  · rename_i b off hb
    rw [hb] at hv
    simp only [okPtr, seqN_eq] at hr
    obtain ⟨rfl, rfl⟩ := rok_ok hr
    obtain ⟨g, c, h1, h3⟩ := hv
    refine ⟨rfl, _, ⟨g, c, h1, rfl⟩, fun u => ?_⟩
    simp only [execOp, ho, h3, Instr.fieldAt, Instr.sureAddr, Sem.run_bind, run_underlying hu, Result.andThen_ok, hfl, fieldPlace, run_size hsz, hn, if_false, Sem.run_pure, add_off]
  · exact (err_ok hr).elim
theorem p_fld {s : TypeId} {x : Operand} {k off n : Nat} {a : Bool} {xa : XA} (ho : o.op = .field s x k) (hx : Hop E ρ f tm x) (h2 : XA.of x = some xa) (hc : cField P s k = some (off, n, a))
    (hr : (XOp.fld a off n xa).run fs call tm S = .ok (v, S')) : PureG P E ρ S S' f o v := by
  have hr : fldA a off n S (ev xa tm) = .ok (v, S') := hr
  have hv := hx xa h2
  obtain ⟨fds, fl, hu, hfl, rfl, hsz, hag⟩ := cField_spec hc
  unfold fldA at hr
  split at hr
  · rename_i cs hb
    rw [hb] at hv
    obtain ⟨xs, h3, h4⟩ := hv
    cases a with
    | true =>
      rw [cnd_true] at hr
      obtain ⟨l, hl, hr⟩ := oif_eq_ok hr
      rw [seqL_eq] at hr
      cases hr
      refine ⟨rfl, _, ⟨_, rfl, extract_VRs h4 hl⟩, fun u => ?_⟩
      simp only [execOp, ho, h3, Instr.field, Sem.run_bind, run_underlying hu, Result.andThen_ok, hfl, asAgg, part, run_agg hag, run_size hsz, if_true, Sem.run_pure]
    | false =>
      rw [cnd_false] at hr
      obtain ⟨y, hy, hr⟩ := oif_eq_ok hr
      cases hr
      rw [nth?_eq] at hy
      obtain ⟨z, hz, hvz⟩ := h4.get hy
      refine ⟨rfl, z, hvz, fun u => ?_⟩
      rw [Array.getElem?_toList] at hz
      simp only [execOp, ho, h3, Instr.field, Sem.run_bind, run_underlying hu, Result.andThen_ok, hfl, asAgg, part, run_agg hag, if_false, Bool.false_eq_true, hz, Sem.run_pure]
  · exact (err_ok hr).elim
theorem p_iad {t e : TypeId} {x i : Operand} {n : Nat} {xa ia : XA} (ho : o.op = .indexAddr t x i) (hx : Hop E ρ f tm x) (hi : Hop E ρ f tm i) (h2 : XA.of x = some xa) (h3 : XA.of i = some ia) (hu : P.underlying t = some (.slice e)) (hn : cSize P e = some n)
    (hr : (XOp.iad n xa ia).run fs call tm S = .ok (v, S')) : PureG P E ρ S S' f o v := by
  have hr : iadA n S (ev xa tm) (ev ia tm) = .ok (v, S') := hr
  have hv := hx xa h2
  have hw := hi ia h3
  unfold iadA at hr
  split at hr
  · rename_i b off len cp hb
    rw [hb] at hv
    obtain ⟨m, hm, hr⟩ := oif_eq_ok hr
    obtain ⟨k, hk⟩ := natOf_spec hm
    rw [hk] at hw
    simp only [VR] at hw
    obtain ⟨hlt, hr⟩ := cnd_eq_ok hr
    have hlt : m < len := by simpa using hlt
    simp only [okPtr, seqN_eq] at hr
    obtain ⟨rfl, rfl⟩ := rok_ok hr
    obtain ⟨g, c, h1, h4⟩ := hv
    refine ⟨rfl, _, ⟨g, c, h1, rfl⟩, fun u => ?_⟩
    have hb2 : (0 : Int) ≤ (m : Int) ∧ (m : Int) < (len : Int) := by omega
    simp only [execOp, ho, h4, hw, Instr.indexAt, asIntOf, Sem.run_bind, run_underlying hu, Result.andThen_ok, Sem.run_pure, hb2, and_self, if_true, run_size hn, add_off, Int.toNat_natCast]
  · exact (err_ok hr).elim
theorem p_iaa {t e : TypeId} {x i : Operand} {len n : Nat} {xa ia : XA} (ho : o.op = .indexAddr t x i) (hx : Hop E ρ f tm x) (hi : Hop E ρ f tm i) (h2 : XA.of x = some xa) (h3 : XA.of i = some ia) (hu : P.underlying t = some (.array len e)) (hn : cSize P e = some n)
    (hr : (XOp.iaa len n xa ia).run fs call tm S = .ok (v, S')) : PureG P E ρ S S' f o v := by
  have hr : iaaA len n S (ev xa tm) (ev ia tm) = .ok (v, S') := hr
  have hv := hx xa h2
  have hw := hi ia h3
  unfold iaaA at hr
  split at hr
  · rename_i b off hb
    rw [hb] at hv
    obtain ⟨m, hm, hr⟩ := oif_eq_ok hr
    obtain ⟨k, hk⟩ := natOf_spec hm
    rw [hk] at hw
    simp only [VR] at hw
    obtain ⟨hlt, hr⟩ := cnd_eq_ok hr
    have hlt : m < len := by simpa using hlt
    simp only [okPtr, seqN_eq] at hr
    obtain ⟨rfl, rfl⟩ := rok_ok hr
    obtain ⟨g, c, h1, h4⟩ := hv
    refine ⟨rfl, _, ⟨g, c, h1, rfl⟩, fun u => ?_⟩
    have hb2 : (0 : Int) ≤ (m : Int) ∧ (m : Int) < (len : Int) := by omega
    simp only [execOp, ho, h4, hw, Instr.indexAt, asIntOf, Sem.run_bind, run_underlying hu, Result.andThen_ok, Sem.run_pure, Instr.sureAddr, hb2, and_self, if_true, run_size hn, add_off, Int.toNat_natCast]
  · exact (err_ok hr).elim
theorem p_ixa {t e : TypeId} {x i : Operand} {len n : Nat} {ag : Bool} {xa ia : XA} (ho : o.op = .index t x i) (hx : Hop E ρ f tm x) (hi : Hop E ρ f tm i) (h2 : XA.of x = some xa) (h3 : XA.of i = some ia) (hu : P.underlying t = some (.array len e)) (hn : cSize P e = some n) (hag : cAgg P e = some ag)
    (hr : (XOp.ixa len n ag xa ia).run fs call tm S = .ok (v, S')) : PureG P E ρ S S' f o v := by
  have hr : ixaA len n ag S (ev xa tm) (ev ia tm) = .ok (v, S') := hr
  have hv := hx xa h2
  have hw := hi ia h3
  unfold ixaA at hr
  split at hr
  · rename_i cs hb
    rw [hb] at hv
    obtain ⟨m, hm, hr⟩ := oif_eq_ok hr
    obtain ⟨k, hk⟩ := natOf_spec hm
    rw [hk] at hw
    simp only [VR] at hw
    obtain ⟨hlt, hr⟩ := cnd_eq_ok hr
    have hlt : m < len := by simpa using hlt
    have hb2 : (0 : Int) ≤ (m : Int) ∧ (m : Int) < (len : Int) := by omega
    obtain ⟨xs, h4, h5⟩ := hv
    cases ag with
    | true =>
      rw [cnd_true] at hr
      obtain ⟨l, hl, hr⟩ := oif_eq_ok hr
      rw [seqL_eq] at hr
      cases hr
      refine ⟨rfl, _, ⟨_, rfl, extract_VRs h5 hl⟩, fun u => ?_⟩
      simp only [execOp, ho, h4, hw, Instr.index, asIntOf, Sem.run_bind, run_underlying hu, Result.andThen_ok, Sem.run_pure, hb2, and_self, if_true, run_size hn, Int.toNat_natCast, part, run_agg hag]
    | false =>
      rw [cnd_false] at hr
      obtain ⟨y, hy, hr⟩ := oif_eq_ok hr
      cases hr
      rw [nth?_eq] at hy
      obtain ⟨z, hz, hvz⟩ := h5.get hy
      refine ⟨rfl, z, hvz, fun u => ?_⟩
      rw [Array.getElem?_toList] at hz
      simp only [execOp, ho, h4, hw, Instr.index, asIntOf, Sem.run_bind, run_underlying hu, Result.andThen_ok, Sem.run_pure, hb2, and_self, if_true, run_size hn, Int.toNat_natCast, part, run_agg hag, Bool.false_eq_true, if_false, hz]
  · exact (err_ok hr).elim
theorem p_ixs {t : TypeId} {x i : Operand} {xa ia : XA} (ho : o.op = .index t x i) (hx : Hop E ρ f tm x) (hi : Hop E ρ f tm i) (h2 : XA.of x = some xa) (h3 : XA.of i = some ia) (hu : P.underlying t = some .string)
    (hr : (XOp.ixs xa ia).run fs call tm S = .ok (v, S')) : PureG P E ρ S S' f o v := by
  have hr : ixsA S (ev xa tm) (ev ia tm) = .ok (v, S') := hr
  have hv := hx xa h2
  have hw := hi ia h3
  unfold ixsA at hr
  split at hr
  · rename_i s hb
    rw [hb] at hv
    obtain ⟨m, hm, hr⟩ := oif_eq_ok hr
    obtain ⟨k, hk⟩ := natOf_spec hm
    rw [hk] at hw
    simp only [VR] at hw
    obtain ⟨b, hb2, hr⟩ := oif_eq_ok hr
    rw [nth?_eq] at hb2
    rw [seqN_eq] at hr
    obtain ⟨rfl, rfl⟩ := rok_ok hr
    obtain ⟨h1, h4⟩ := hv
    have hbl := h4 b (List.mem_of_getElem? hb2)
    refine ⟨rfl, _, rfl, fun u => ?_⟩
    have hlt : m < s.length := (List.getElem?_eq_some_iff.1 hb2).1
    have hg : (mkS s)[m]? = some (UInt8.ofNat b) := by
      have hsz : (mkS s).size = s.length := by simp [mkS, ByteArray.size]
      rw [getElem?_pos (mkS s) m (by rw [hsz]; exact hlt)]
      show some ((mkS s).data[m]'(by rw [show (mkS s).data.size = (mkS s).size from rfl, hsz]; exact hlt)) = _
      simp only [mkS, List.getElem_toArray, List.getElem_map]
      rw [(List.getElem?_eq_some_iff.1 hb2).2]
    have h0 : (0 : Int) ≤ (m : Int) := by omega
    simp only [execOp, ho, h1, hw, Instr.index, asIntOf, Sem.run_bind, run_underlying hu, Result.andThen_ok, Sem.run_pure, h0, if_true, Int.toNat_natCast, hg]
    simp [Nat.mod_eq_of_lt hbl]
  · exact (err_ok hr).elim
theorem p_ext {x : Operand} {i : Nat} {xa : XA} (ho : o.op = .extract x i) (hx : Hop E ρ f tm x) (h2 : XA.of x = some xa) (hr : (XOp.ext xa i).run fs call tm S = .ok (v, S')) : PureG P E ρ S S' f o v := by
  have hr : extA i S (ev xa tm) = .ok (v, S') := hr
  have hv := hx xa h2
  unfold extA at hr
  split at hr
  · rename_i l hb
    rw [hb] at hv
    obtain ⟨y, hy, hr⟩ := oif_eq_ok hr
    cases hr
    rw [nth?_eq] at hy
    obtain ⟨xs, h3, h4⟩ := hv
    obtain ⟨z, hz, hvz⟩ := h4.get hy
    rw [Array.getElem?_toList] at hz
    exact ⟨rfl, z, hvz, fun u => by simp only [execOp, ho, h3, Instr.extract, hz, Sem.run_bind, Sem.run_pure, Result.andThen_ok]⟩
  · exact (err_ok hr).elim
theorem p_mki {t : TypeId} {x : Operand} {ud : TypeDesc} {xa : XA} (ho : o.op = .makeInterface t x) (hx : Hop E ρ f tm x) (h2 : XA.of x = some xa) (hu : P.underlying t = some ud) (hd : ∀ ms, ud ≠ .interface ms)
    (hr : (XOp.mki t xa).run fs call tm S = .ok (v, S')) : PureG P E ρ S S' f o v := by
  have hr : seqV (ev xa tm) (fun v => rok (.iface t v) S) = .ok (v, S') := hr
  rw [seqV_eq] at hr
  obtain ⟨rfl, rfl⟩ := rok_ok hr
  refine ⟨rfl, .iface t (f x), ⟨_, rfl, hx xa h2⟩, fun u => ?_⟩
  simp only [execOp, ho, Instr.makeInterface, Sem.run_bind, run_underlying hu, Result.andThen_ok]
  cases ud <;> first | exact absurd rfl (hd _) | rfl
theorem p_tas {t xt : TypeId} {x : Operand} {ud : TypeDesc} {xa : XA} (ho : o.op = .typeAssert x xt t false) (hx : Hop E ρ f tm x) (h2 : XA.of x = some xa) (hu : P.underlying t = some ud) (hd : ∀ ms, ud ≠ .interface ms)
    (hr : (XOp.tas t xa).run fs call tm S = .ok (v, S')) : PureG P E ρ S S' f o v := by
  have hr : tasA t S (ev xa tm) = .ok (v, S') := hr
  have hv := hx xa h2
  unfold tasA at hr
  split at hr
  · rename_i ut y hb
    rw [hb] at hv
    obtain ⟨he, hr2⟩ := cnd_eq_ok hr
    have he := Nat.eq_of_beq_eq_true he
    clear hr
    subst he
    obtain ⟨rfl, rfl⟩ := rok_ok hr2
    obtain ⟨z, h3, h4⟩ := hv
    refine ⟨rfl, z, h4, fun u => ?_⟩
    simp only [execOp, ho, h3, Instr.typeAssert, Sem.run_bind, run_underlying hu, Result.andThen_ok]
    cases ud <;> first | exact absurd rfl (hd _) | rfl
  · exact (err_ok hr).elim
/-- a call of a builtin, as the model carries it out -/
theorem exec_builtin {c : Call} {b : Builtin} (ho : o.op = .call c) (hb : c.callee = .builtin b) : ∃ cs : Array Bool, ∀ u, (execOp f o).run P u = (builtin b c.argTypes o.type cs (c.args.map f)).run P u :=
  ⟨_, fun u => by simp only [execOp, ho, resolve, hb, invoke, Sem.run_bind, Sem.run_pure, Result.andThen_ok]; rfl⟩
theorem ofs_cons {x : Operand} {l : List Operand} {a : XA} {r : List XA} (h : XA.ofs (x :: l) = some (a :: r)) : XA.of x = some a ∧ XA.ofs l = some r := by
  unfold XA.ofs at h
  split at h
  · rename_i a' r' h1 h2
    cases h
    exact ⟨h1, h2⟩
  · cases h
theorem ofs_args1 {c : Call} {a : XA} (h : XA.ofs c.args.toList = some [a]) : ∃ x, c.args = #[x] ∧ XA.of x = some a := by
  cases hl : c.args.toList with
  | nil => rw [hl] at h; cases h
  | cons x l =>
    rw [hl] at h
    obtain ⟨h1, h2⟩ := ofs_cons h
    cases l with
    | nil => exact ⟨x, by rw [← Array.toArray_toList (xs := c.args), hl], h1⟩
    | cons y l =>
      unfold XA.ofs at h2
      split at h2 <;> cases h2
theorem ofs_args2 {c : Call} {a b : XA} (h : XA.ofs c.args.toList = some [a, b]) : ∃ x y, c.args = #[x, y] ∧ XA.of x = some a ∧ XA.of y = some b := by
  cases hl : c.args.toList with
  | nil => rw [hl] at h; cases h
  | cons x l =>
    rw [hl] at h
    obtain ⟨h1, h2⟩ := ofs_cons h
    cases l with
    | nil => cases h2
    | cons y l =>
      obtain ⟨h3, h4⟩ := ofs_cons h2
      cases l with
      | nil => exact ⟨x, y, by rw [← Array.toArray_toList (xs := c.args), hl], h1, h3⟩
      | cons z l =>
        unfold XA.ofs at h4
        split at h4 <;> cases h4
theorem run_len {c : Call} {x : Operand} {y : Value} {n : Nat} (ho : o.op = .call c) (hb : c.callee = .builtin .len) (hx : c.args = #[x]) (hy : f x = y) (hl : ∀ u, (Builtin.len_ c.argTypes o.type #[y]).run P u = .ok (goInt n) u) (u : World) :
    (execOp f o).run P u = .ok (.value (.int .i64 n)) u := by
  obtain ⟨cs, hex⟩ := exec_builtin (P := P) (f := f) ho hb
  rw [hex u, hx]
  simp only [List.map_toArray, List.map_cons, List.map_nil, hy, builtin, Sem.run_bind, hl u, Result.andThen_ok, Sem.run_pure, goInt]
theorem p_lns {c : Call} {t : TypeId} {ts : List TypeId} {xa : XA} (ho : o.op = .call c) (hb : c.callee = .builtin .len) (hH : ∀ x ∈ c.args.toList, Hop E ρ f tm x) (ha : XA.ofs c.args.toList = some [xa]) (ht : c.argTypes.toList = t :: ts)
    (hu : P.underlying t = some .string) (hr : (XOp.lns xa).run fs call tm S = .ok (v, S')) : PureG P E ρ S S' f o v := by
  have hr : lnsA S (ev xa tm) = .ok (v, S') := hr
  obtain ⟨x, hx, hxa⟩ := ofs_args1 ha
  have hv := hH x (by rw [hx]; simp) xa hxa
  have h0 : c.argTypes[0]? = some t := by rw [← Array.getElem?_toList, ht]; rfl
  unfold lnsA at hr
  split at hr
  · rename_i s hb2
    rw [hb2] at hv
    obtain ⟨h1, _⟩ := hv
    obtain ⟨rfl, rfl⟩ := okN_ok hr
    refine ⟨rfl, _, rfl, run_len ho hb hx h1 fun u => ?_⟩
    simp only [Builtin.len_, h0, List.getElem?_toArray, List.getElem?_cons_zero, Sem.run_bind, run_underlying hu, Result.andThen_ok, Sem.run_pure, llen_eq]
    simp [mkS, ByteArray.size]
  · exact (err_ok hr).elim
theorem p_len {c : Call} {t e : TypeId} {ts : List TypeId} {xa : XA} (ho : o.op = .call c) (hb : c.callee = .builtin .len) (hH : ∀ x ∈ c.args.toList, Hop E ρ f tm x) (ha : XA.ofs c.args.toList = some [xa]) (ht : c.argTypes.toList = t :: ts)
    (hu : P.underlying t = some (.slice e)) (hr : (XOp.len xa).run fs call tm S = .ok (v, S')) : PureG P E ρ S S' f o v := by
  have hr : lenA S (ev xa tm) = .ok (v, S') := hr
  obtain ⟨x, hx, hxa⟩ := ofs_args1 ha
  have hv := hH x (by rw [hx]; simp) xa hxa
  have h0 : c.argTypes[0]? = some t := by rw [← Array.getElem?_toList, ht]; rfl
  have key : ∀ (a : Option Addr) (n cc : Nat), (∀ u, (Builtin.len_ c.argTypes o.type #[.slice a n cc]).run P u = .ok (goInt n) u) := fun a n cc u => by
    simp only [Builtin.len_, h0, List.getElem?_toArray, List.getElem?_cons_zero, Sem.run_bind, run_underlying hu, Result.andThen_ok, Sem.run_pure]
  unfold lenA at hr
  split at hr
  · rename_i b off n cp hb2
    rw [hb2] at hv
    obtain ⟨g, cc, h1, h3⟩ := hv
    obtain ⟨rfl, rfl⟩ := okN_ok hr
    exact ⟨rfl, _, rfl, run_len ho hb hx h3 (key _ _ _)⟩
  · rename_i hb2
    rw [hb2] at hv
    obtain ⟨a, cc, h3⟩ := hv
    obtain ⟨rfl, rfl⟩ := okN_ok hr
    exact ⟨rfl, _, rfl, run_len ho hb hx h3 (key _ _ _)⟩
  · rename_i hb2
    rw [hb2] at hv
    simp only [VR] at hv
    obtain ⟨rfl, rfl⟩ := okN_ok hr
    exact ⟨rfl, _, rfl, run_len ho hb hx hv (key _ _ _)⟩
  · exact (err_ok hr).elim
theorem p_cap {c : Call} {t e : TypeId} {ts : List TypeId} {xa : XA} (ho : o.op = .call c) (hb : c.callee = .builtin .cap) (hH : ∀ x ∈ c.args.toList, Hop E ρ f tm x) (ha : XA.ofs c.args.toList = some [xa]) (ht : c.argTypes.toList = t :: ts)
    (hu : P.underlying t = some (.slice e)) (hr : (XOp.cap xa).run fs call tm S = .ok (v, S')) : PureG P E ρ S S' f o v := by
  have hr : capA S (ev xa tm) = .ok (v, S') := hr
  obtain ⟨x, hx, hxa⟩ := ofs_args1 ha
  have hv := hH x (by rw [hx]; simp) xa hxa
  have h0 : c.argTypes[0]? = some t := by rw [← Array.getElem?_toList, ht]; rfl
  obtain ⟨cs, hex⟩ := exec_builtin (P := P) (f := f) ho hb
  have key : ∀ (a : Option Addr) (n cc : Nat), f x = .slice a n cc → ∀ u, (execOp f o).run P u = .ok (.value (.int .i64 cc)) u := fun a n cc hy u => by
    rw [hex u, hx]
    simp only [List.map_toArray, List.map_cons, List.map_nil, hy, builtin, Builtin.cap_, h0, List.getElem?_toArray, List.getElem?_cons_zero, Sem.run_bind, run_underlying hu, Result.andThen_ok, Sem.run_pure, goInt]
  unfold capA at hr
  split at hr
  · rename_i b off n cp hb2
    rw [hb2] at hv
    obtain ⟨g, cc, h1, h3⟩ := hv
    obtain ⟨rfl, rfl⟩ := okN_ok hr
    exact ⟨rfl, _, rfl, key _ _ _ h3⟩
  · rename_i hb2
    rw [hb2] at hv
    simp only [VR] at hv
    obtain ⟨rfl, rfl⟩ := okN_ok hr
    exact ⟨rfl, _, rfl, key _ _ _ hv⟩
  · exact (err_ok hr).elim
theorem maxY_spec (hf : FactsOK E fs) {mx : Bool} {a b : AV} {x y : Value} (hx : VR E ρ a x) (hy : VR E ρ b y) (h : maxY fs mx S a b = .ok (v, S')) : S' = S ∧ ∃ z, VR E ρ v z ∧ ∀ u, (if mx then Builtin.max2 x y else Builtin.min2 x y).run P u = .ok z u := by
  unfold maxY at h
  obtain ⟨k, hk, h1⟩ := oif_eq_ok h
  obtain ⟨j, hj, h2⟩ := oif_eq_ok h1
  obtain ⟨p, hp, h3⟩ := oif_eq_ok h2
  obtain ⟨q, hq, h4⟩ := oif_eq_ok h3
  obtain ⟨hkj, h5⟩ := cnd_eq_ok h4
  rw [kindEq_iff] at hkj
  subst hkj
  have ex := IE.of_spec hx hk hp
  have ey := IE.of_spec hy hj hq
  cases mx with
  | true =>
    rw [cnd_true] at h5
    obtain ⟨r, hr, h6⟩ := oif_eq_ok h5
    have hlt := askLt_spec hf hr
    cases r with
    | true =>
      obtain ⟨rfl, rfl⟩ := rok_ok h6
      have hlt := of_decide_eq_true hlt
      have : q.val E > p.val E := hlt
      exact ⟨rfl, y, hy, fun u => by rw [ex, ey]; simp only [if_true, Builtin.max2, if_pos this, Sem.run_pure]⟩
    | false =>
      obtain ⟨rfl, rfl⟩ := rok_ok h6
      have hlt := of_decide_eq_false hlt
      have : ¬ q.val E > p.val E := hlt
      exact ⟨rfl, x, hx, fun u => by rw [ex, ey]; simp only [if_true, Builtin.max2, if_neg this, Sem.run_pure]⟩
  | false =>
    rw [cnd_false] at h5
    obtain ⟨r, hr, h6⟩ := oif_eq_ok h5
    have hlt := askLt_spec hf hr
    cases r with
    | true =>
      obtain ⟨rfl, rfl⟩ := rok_ok h6
      have hlt := of_decide_eq_true hlt
      exact ⟨rfl, y, hy, fun u => by rw [ex, ey]; simp only [Bool.false_eq_true, if_false, Builtin.min2, if_pos hlt, Sem.run_pure]⟩
    | false =>
      obtain ⟨rfl, rfl⟩ := rok_ok h6
      have hlt := of_decide_eq_false hlt
      exact ⟨rfl, x, hx, fun u => by rw [ex, ey]; simp only [Bool.false_eq_true, if_false, Builtin.min2, if_neg hlt, Sem.run_pure]⟩
theorem max2_spec (hf : FactsOK E fs) {mx : Bool} {a b : AV} {x y : Value} (hx : VR E ρ a x) (hy : VR E ρ b y) (h : max2 fs mx S a b = .ok (v, S')) : S' = S ∧ ∃ z, VR E ρ v z ∧ ∀ u, (if mx then Builtin.max2 x y else Builtin.min2 x y).run P u = .ok z u := by
  unfold max2 at h
  split at h
  · rename_i k p q r
    simp only [VR] at hx hy
    subst hx; subst hy
    rw [cnd_eq] at h
    cases mx with
    | true =>
      simp only [cnd_true, ilt_eq] at h
      split at h
      · rename_i hlt
        obtain ⟨rfl, rfl⟩ := rok_ok h
        have : r > p := by simpa using hlt
        exact ⟨rfl, _, rfl, fun u => by simp [Builtin.max2, this]⟩
      · rename_i hlt
        obtain ⟨rfl, rfl⟩ := rok_ok h
        have : ¬ r > p := by simpa using hlt
        exact ⟨rfl, _, rfl, fun u => by simp only [if_true, Builtin.max2, if_neg this, Sem.run_pure]⟩
    | false =>
      simp only [cnd_false, ilt_eq] at h
      split at h
      · rename_i hlt
        obtain ⟨rfl, rfl⟩ := rok_ok h
        have : r < p := by simpa using hlt
        exact ⟨rfl, _, rfl, fun u => by simp [Builtin.min2, this]⟩
      · rename_i hlt
        obtain ⟨rfl, rfl⟩ := rok_ok h
        have : ¬ r < p := by simpa using hlt
        exact ⟨rfl, _, rfl, fun u => by simp only [Bool.false_eq_true, if_false, Builtin.min2, if_neg this, Sem.run_pure]⟩
  · exact maxY_spec hf hx hy h
theorem mxm_spec (hf : FactsOK E fs) {mx : Bool} {l : List AV} : ∀ {a : AV} {x : Value} {m : List Value}, VR E ρ a x → VRs E ρ l m → mxmA fs mx S l a = .ok (v, S') → S' = S ∧ ∃ z, VR E ρ v z ∧ ∀ u, (m.foldlM (if mx then Builtin.max2 else Builtin.min2) x).run P u = .ok z u := by
  induction l with
  | nil =>
    intro a x m hx hm h
    rw [VRs.nil_iff.1 hm]
    obtain ⟨rfl, rfl⟩ := rok_ok h
    exact ⟨rfl, x, hx, fun u => rfl⟩
  | cons b l ih =>
    intro a x m hx hm h
    obtain ⟨y, m', rfl, hy, hm'⟩ := VRs.cons_iff.1 hm
    have h : R.bind (max2 fs mx S a b) (fun p => mxmA fs mx S l p.1) = .ok (v, S') := h
    obtain ⟨⟨c, S1⟩, h1, h2⟩ := bind_eq_ok h
    obtain ⟨rfl, z, hz, hrun⟩ := max2_spec (P := P) hf hx hy h1
    obtain ⟨h3, z', hz', hrun'⟩ := ih hz hm' h2
    refine ⟨h3, z', hz', fun u => ?_⟩
    have := hrun u
    cases mx <;> simp only [if_true, if_false, Bool.false_eq_true, List.foldlM_cons, Sem.run_bind] at this ⊢ <;> rw [this] <;> exact hrun' u
theorem p_mxm (hf : FactsOK E fs) {mx : Bool} {c : Call} {xa : XA} {xs : List XA} (ho : o.op = .call c) (hb : c.callee = .builtin (if mx then .max else .min)) (hH : ∀ x ∈ c.args.toList, Hop E ρ f tm x) (ha : XA.ofs c.args.toList = some (xa :: xs))
    (hr : (XOp.mxm mx xa xs).run fs call tm S = .ok (v, S')) : PureG P E ρ S S' f o v := by
  have hr : evs tm xs (fun l => mxmA fs mx S l (ev xa tm)) = .ok (v, S') := hr
  rw [evs_eq] at hr
  cases hl : c.args.toList with
  | nil => rw [hl] at ha; cases ha
  | cons x l =>
    rw [hl] at ha hH
    obtain ⟨h1, h2⟩ := ofs_cons ha
    obtain ⟨h3, z, hz, hrun⟩ := mxm_spec (P := P) hf (hH x (by simp) xa h1) (ofs_VRs h2 (fun y hy => hH y (by simp [hy]))) hr
    obtain ⟨cs, hex⟩ := exec_builtin (P := P) (f := f) ho hb
    refine ⟨h3, z, hz, fun u => ?_⟩
    rw [hex u]
    have ht : (c.args.map f).toList = f x :: l.map f := by rw [Array.toList_map, hl]; rfl
    have hru := hrun u
    cases mx with
    | true =>
      simp only [if_true] at hru ⊢
      simp only [builtin, Builtin.max_, ht, Sem.run_bind, hru, Result.andThen_ok, Sem.run_pure]
    | false =>
      simp only [Bool.false_eq_true, if_false] at hru ⊢
      simp only [builtin, Builtin.min_, ht, Sem.run_bind, hru, Result.andThen_ok, Sem.run_pure]
end
end Go.Proofs.YtdimeaooekhkhaaGreat.AX
