/- Proved: every operation that is laid out for the runner does what the model's does. No function of the program is walked here. -/
import Derived.Test.YtdimeaooekhkhaaGreatAxOps7
set_option linter.unusedVariables false
set_option linter.unusedSimpArgs false
namespace Go.Proofs.YtdimeaooekhkhaaGreat.AX
open Go.RowKit

theorem PureG.read {P : Program} {E : Env} {ρ : Ren} {S S' : St} {f : Operand → Value} {o : Oper} {w : World} {v : AV} (h : PureG P E ρ S S' f o v) : ReadG P E ρ S S' f o w v := by
  obtain ⟨h1, x, h2, h3⟩ := h
  exact ⟨h1, x, h2, h3 w⟩
section
variable {P : Program} {E : Env} {B : Nat} {ρ : Ren} {S S' : St} {w : World} {f : Operand → Value} {tm : Tm} {fs : List Fact} {call : CallT} {v : AV} {o : Oper} {xo : XOp}

/-- of which class an operation is, and what holds of it -/
def Cls (P : Program) (E : Env) (B : Nat) (ρ : Ren) (S : St) (w : World) (S' : St) (f : Operand → Value) (o : Oper) (v : AV) (xo : XOp) : Prop :=
  (xo.pure = true ∧ PureG P E ρ S S' f o v) ∨ (xo.reads = true ∧ ReadG P E ρ S S' f o w v) ∨ (xo.news = true ∧ NewsG P E ρ S S' f o v) ∨
  (xo.pure = false ∧ xo.reads = false ∧ xo.news = false ∧ (EffG P E B ρ S w S' f o v ∨ ∃ c fo g l, o.op = .call c ∧ c.callee = .value fo ∧ XA.of fo = some g ∧ XA.ofs c.args.toList = some l ∧ xo = .cal g l))

theorem Cls.p (h1 : xo.pure = true) (h2 : PureG P E ρ S S' f o v) : Cls P E B ρ S w S' f o v xo := .inl ⟨h1, h2⟩
theorem Cls.r (h1 : xo.reads = true) (h2 : ReadG P E ρ S S' f o w v) : Cls P E B ρ S w S' f o v xo := .inr (.inl ⟨h1, h2⟩)
theorem Cls.n (h1 : xo.news = true) (h2 : NewsG P E ρ S S' f o v) : Cls P E B ρ S w S' f o v xo := .inr (.inr (.inl ⟨h1, h2⟩))
theorem Cls.e (h1 : xo.pure = false) (h2 : xo.reads = false) (h3 : xo.news = false) (h4 : EffG P E B ρ S w S' f o v) : Cls P E B ρ S w S' f o v xo := .inr (.inr (.inr ⟨h1, h2, h3, .inl h4⟩))

theorem cls_builtin (hF : FactsOK E fs) (hS : xo.news = false → HR E B ρ S w) {c : Call} {b : Builtin} {l : List XA} (hop : o.op = .call c) (hb : c.callee = .builtin b) (hH : ∀ x ∈ c.args.toList, Hop E ρ f tm x) (ha : XA.ofs c.args.toList = some l)
    (hc : cBuiltin P b c.argTypes.toList l = some xo) (hr : xo.run fs call tm S = .ok (v, S')) : Cls P E B ρ S w S' f o v xo := by
  unfold cBuiltin at hc
  split at hc
  · rename_i t u s x ht
    split at hc
    · rename_i e n z k hsl hu
      cases hc
      exact .e rfl rfl rfl (e_apz (hS rfl) hop hb hH ha ht hsl hu hr)
    · rename_i e n z e' hsl hu
      cases hc
      exact .e rfl rfl rfl (e_app (hS rfl) hop hb hH ha ht hsl (.inl ⟨_, hu⟩) hr)
    · rename_i e n z hsl hu
      split at hc
      · cases hc
        exact .e rfl rfl rfl (e_app (hS rfl) hop hb hH ha ht hsl (.inr hu) hr)
      · cases hc
    · cases hc
  · rename_i t ts x ht
    split at hc
    · rename_i a b' hu
      cases hc
      exact .r rfl (r_lnm (hS rfl) hop hb hH ha ht hu hr)
    · rename_i hu
      cases hc
      exact .p rfl (p_lns hop hb hH ha ht hu hr)
    · rename_i e hu
      cases hc
      exact .p rfl (p_len hop hb hH ha ht hu hr)
    · cases hc
  · rename_i t ts x ht
    split at hc
    · rename_i e hu
      cases hc
      exact .p rfl (p_cap hop hb hH ha ht hu hr)
    · cases hc
  · cases hc
    exact .p rfl (p_mxm hF (mx := true) hop hb hH ha hr)
  · cases hc
    exact .p rfl (p_mxm hF (mx := false) hop hb hH ha hr)
  · rename_i t ts m k ht
    obtain ⟨⟨kk, e⟩, hk, rfl⟩ := mapO hc
    exact .e rfl rfl rfl (e_del (hS rfl) hop hb hH ha ht hk hr)
  · rename_i t ts x ht
    split at hc
    · rename_i e n z hsl
      cases hc
      exact .e rfl rfl rfl (e_clr (hS rfl) hop hb hH ha ht hsl hr)
    · cases hc
  · cases hc

theorem cls (hF : FactsOK E fs) (hS : xo.news = false → HR E B ρ S w) (hH : ∀ x ∈ o.op.operands.toList, Hop E ρ f tm x) (hcst : ∀ c, f (.const c) = c) (hc : compOp? P o.op = some xo) (hr : xo.run fs call tm S = .ok (v, S')) : Cls P E B ρ S w S' f o v xo := by
  cases hop : o.op <;> rw [hop] at hc hH <;> simp only [compOp?] at hc <;> (try (cases hc; done))
  case move x =>
    obtain ⟨a, ha, rfl⟩ := mapO hc
    exact .p rfl (p_mv (.inl hop) (hH x (by simp [Op.operands])) ha hr)
  case assign x =>
    obtain ⟨a, ha, rfl⟩ := mapO hc
    exact .p rfl (p_mv (.inr hop) (hH x (by simp [Op.operands])) ha hr)
  case pick c x y =>
    split at hc
    · rename_i h1 h2 h3
      cases hc
      exact .p rfl (p_pick hop (hH c (by simp [Op.operands])) (hH x (by simp [Op.operands])) (hH y (by simp [Op.operands])) h1 h2 h3 hr)
    · cases hc
  case alloc e =>
    obtain ⟨z, hz, rfl⟩ := mapO hc
    exact .n rfl (n_row hop hz hr)
  case box e x =>
    obtain ⟨a, ha, rfl⟩ := mapO hc
    exact .n rfl (n_box hop (hH x (by simp [Op.operands])) ha hr)
  case build t ps =>
    have hps : ∀ p ∈ ps.toList, Hop E ρ f tm p.2 := fun p hp => hH p.2 (by simp only [Op.operands, List.toList_toArray]; exact List.mem_map_of_mem hp)
    have hpure : xo.pure = true := by
      unfold cBuild at hc
      split at hc
      · split at hc
        · obtain ⟨_, _, rfl⟩ := mapO hc; rfl
        · cases hc
      · split at hc
        · obtain ⟨_, _, rfl⟩ := mapO hc; rfl
        · cases hc
      · cases hc
    exact .p hpure (p_build hop hps hc hr)
  case buildSlice t n ps =>
    have hps : ∀ p ∈ ps.toList, Hop E ρ f tm p.2 := fun p hp => hH p.2 (by simp only [Op.operands, List.toList_toArray]; exact List.mem_map_of_mem hp)
    have hn : xo.news = true := by
      unfold cBsl at hc
      split at hc
      · split at hc
        · obtain ⟨_, _, rfl⟩ := mapO hc; rfl
        · cases hc
      · cases hc
    exact .n hn (n_bsl hop hps hc hr)
  case load t a =>
    split at hc
    · rename_i h1 h2 h3
      cases hc
      exact .r rfl (r_ldn (hS rfl) hop (hH a (by simp [Op.operands])) h3 h1 h2 hr)
    · rename_i h1 h2 h3
      cases hc
      exact .r rfl (r_ld1 (n := 0) (hS rfl) hop (hH a (by simp [Op.operands])) h3 h1 hr)
    · cases hc
  case store t a x =>
    split at hc
    · rename_i h1 h2 h3
      cases hc
      exact .e rfl rfl rfl (e_st (hS rfl) hop (hH a (by simp [Op.operands])) (hH x (by simp [Op.operands])) h2 h3 h1 hr)
    · cases hc
  case nilCheck x =>
    obtain ⟨a, ha, rfl⟩ := mapO hc
    exact .p rfl (p_nck hop (hH x (by simp [Op.operands])) ha hr)
  case binOp op t x y yt =>
    split at hc
    · rename_i h1 h2
      cases hc
      exact .p rfl (p_bin hF hop (hH x (by simp [Op.operands])) (hH y (by simp [Op.operands])) h1 h2 hr)
    · cases hc
  case unOp op t x =>
    obtain ⟨a, ha, rfl⟩ := mapO hc
    exact .p rfl (p_un hF hop (hH x (by simp [Op.operands])) ha hr)
  case convert s d x =>
    cases hx : XA.of x with
    | none => rw [hx] at hc; cases hc
    | some a =>
      rw [hx] at hc
      have hc : cConv P s d a = some xo := hc
      have hxH := hH x (by simp [Op.operands])
      unfold cConv at hc
      split at hc
      · rename_i ud k h1 h2
        cases hc
        exact .p rfl (p_cvi (sd := 0) hF hop hxH hx h1 h2 hr)
      · rename_i h1 h2
        cases hc
        exact .p rfl (p_css hop hxH hx h1 h2 hr)
      · split at hc <;> cases hc
      · rename_i e h1 h2
        split at hc
        · rename_i h3
          cases hc
          exact .r rfl (r_b2s (hS rfl) hop hxH hx h1 h2 h3 hr)
        · cases hc
      · cases hc
  case makeInterface t x =>
    split at hc
    · cases hc
    · rename_i ud a h3 h1 h2
      cases hc
      exact .p rfl (p_mki hop (hH x (by simp [Op.operands])) h2 h1 (fun ms e => h3 ms e) hr)
    · cases hc
  case makeFunc fn as bs =>
    split at hc
    · rename_i h1 h2
      cases hc
      exact .p rfl (p_mkf hop (fun x hx => hH x (by simp only [Op.operands, Array.toList_append]; exact List.mem_append_left _ hx)) (fun x hx => hH x (by simp only [Op.operands, Array.toList_append]; exact List.mem_append_right _ hx)) h1 h2 hr)
    · cases hc
  case makeMap t r =>
    unfold cMakeMap at hc
    split at hc
    · cases hc
      exact .n rfl (n_mkm hop (.inl rfl) hcst hr)
    · rename_i k n
      split at hc
      · rename_i a b hu
        cases hc
        exact .n rfl (n_mkm hop (.inr ⟨k, n, a, b, rfl, hu⟩) hcst hr)
      · cases hc
    · cases hc
  case slice t x lo hi mx =>
    split at hc
    · rename_i e xa la ha ma hu h1 h2 h3 h4
      split at hc
      · rename_i e' n z hsl
        split at hc
        · cases hc
        · rename_i hmh
          cases hc
          refine .r rfl (PureG.read (p_slc (hS rfl) hop (hH x (by simp [Op.operands])) (fun y hy => hH y ?_) (fun y hy => hH y ?_) (fun y hy => hH y ?_) h1 h2 h3 h4 hsl (by cases hb : (ma.isSome && ha.isNone) with | false => rfl | true => exact absurd hb hmh) hr))
          all_goals (simp only [Option.mem_def] at hy; subst hy; simp [Op.operands])
      · cases hc
    · rename_i n e xa la ha hu h1 h2 h3 h4
      obtain ⟨k, hk, rfl⟩ := mapO hc
      refine .p rfl (p_sla hop (hH x (by simp [Op.operands])) (fun y hy => hH y ?_) (fun y hy => hH y ?_) h1 h2 h3 h4 hu hk hr)
      all_goals (simp only [Option.mem_def] at hy; subst hy; simp [Op.operands])
    · cases hc
  case fieldAddr s x k =>
    split at hc
    · rename_i off n a xa h1 h2
      split at hc
      · cases hc
      · rename_i hn
        cases hc
        exact .p rfl (p_fad hop (hH x (by simp [Op.operands])) h2 h1 hn hr)
    · cases hc
  case field s x k =>
    split at hc
    · rename_i off n a xa h1 h2
      cases hc
      exact .p rfl (p_fld hop (hH x (by simp [Op.operands])) h2 h1 hr)
    · cases hc
  case indexAddr t x i =>
    split at hc
    · rename_i e xa ia hu h1 h2
      obtain ⟨n, hn, rfl⟩ := mapO hc
      exact .p rfl (p_iad hop (hH x (by simp [Op.operands])) (hH i (by simp [Op.operands])) h1 h2 hu hn hr)
    · rename_i len e xa ia hu h1 h2
      obtain ⟨n, hn, rfl⟩ := mapO hc
      exact .p rfl (p_iaa hop (hH x (by simp [Op.operands])) (hH i (by simp [Op.operands])) h1 h2 hu hn hr)
    · cases hc
  case index t x i =>
    split at hc
    · rename_i xa ia hu h1 h2
      cases hc
      exact .p rfl (p_ixs hop (hH x (by simp [Op.operands])) (hH i (by simp [Op.operands])) h1 h2 hu hr)
    · rename_i len e xa ia hu h1 h2
      split at hc
      · rename_i n ag hn hag
        cases hc
        exact .p rfl (p_ixa hop (hH x (by simp [Op.operands])) (hH i (by simp [Op.operands])) h1 h2 hu hn hag hr)
      · cases hc
    · cases hc
  case lookup t m k ok =>
    split at hc
    · rename_i kk e ma ka h1 h2 h3
      obtain ⟨z, hz, rfl⟩ := mapO hc
      exact .r rfl (r_lkp (hS rfl) hop (hH m (by simp [Op.operands])) (hH k (by simp [Op.operands])) h2 h3 h1 hz hr)
    · cases hc
  case mapUpdate t m k x =>
    split at hc
    · rename_i kk e ma ka xa h1 h2 h3 h4
      cases hc
      exact .e rfl rfl rfl (e_mup (hS rfl) (.inl hop) (hH m (by simp [Op.operands])) (hH k (by simp [Op.operands])) (hH x (by simp [Op.operands])) h2 h3 h4 h1 hr)
    · cases hc
  case insert t m k x =>
    split at hc
    · rename_i kk e ma ka xa h1 h2 h3 h4
      cases hc
      exact .e rfl rfl rfl (e_mup (hS rfl) (.inr hop) (hH m (by simp [Op.operands])) (hH k (by simp [Op.operands])) (hH x (by simp [Op.operands])) h2 h3 h4 h1 hr)
    · cases hc
  case range t x =>
    split at hc
    · rename_i a b xa hu h1
      cases hc
      exact .e rfl rfl rfl (e_rgm (hS rfl) hop (hH x (by simp [Op.operands])) h1 hu hr)
    · cases hc
  case next x is =>
    cases is with
    | true => cases hc
    | false =>
      obtain ⟨a, ha, rfl⟩ := mapO hc
      exact .e rfl rfl rfl (e_nxt (hS rfl) hop (hH x (by simp [Op.operands])) ha hr)
  case typeAssert x xt t ok =>
    cases ok with
    | true => cases hc
    | false =>
      simp only [cAssert] at hc
      split at hc
      · cases hc
      · rename_i ud a h3 h1 h2
        cases hc
        exact .p rfl (p_tas hop (hH x (by simp [Op.operands])) h2 h1 (fun ms e => h3 ms e) hr)
      · cases hc
  case extract x i =>
    obtain ⟨a, ha, rfl⟩ := mapO hc
    exact .p rfl (p_ext hop (hH x (by simp [Op.operands])) ha hr)
  case call c =>
    unfold cCall at hc
    split at hc
    · cases hc
    · rename_i l hl
      split at hc
      · rename_i fo hcal
        obtain ⟨g, hg, rfl⟩ := mapO hc
        exact .inr (.inr (.inr ⟨rfl, rfl, rfl, .inr ⟨c, fo, g, l, hop, hcal, hg, hl, rfl⟩⟩))
      · rename_i b hcal
        exact cls_builtin hF hS hop hcal (fun x hx => hH x (by simp only [Op.operands, Call.operands, Array.toList_append]; exact List.mem_append_right _ hx)) hl hc hr
      · cases hc
theorem compOp_some (h : compOp P o.op = xo) (hb : xo ≠ .bad) : compOp? P o.op = some xo := by
  unfold compOp at h
  cases hc : compOp? P o.op with
  | none => rw [hc] at h; exact absurd h.symm hb
  | some y => rw [hc] at h; cases h; rfl
theorem bad_run {p : AV × St} : XOp.bad.run fs call tm S ≠ .ok p := fun h => by cases h
end
end Go.Proofs.YtdimeaooekhkhaaGreat.AX
