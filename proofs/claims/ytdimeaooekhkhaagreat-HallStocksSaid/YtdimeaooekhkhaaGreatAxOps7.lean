/- Proved: an append, to a slice that has room or none, whatever is appended. No function of the program is walked here. -/
import Derived.Test.YtdimeaooekhkhaaGreatAxOps6
set_option linter.unusedVariables false
set_option linter.unusedSimpArgs false
namespace Go.Proofs.YtdimeaooekhkhaaGreat.AX
open Go.RowKit

section
variable {P : Program} {E : Env} {B : Nat} {ρ : Ren} {S S' : St} {w : World} {f : Operand → Value} {tm : Tm} {fs : List Fact} {call : CallT} {v : AV} {o : Oper} {xo : XOp}

theorem ofBytes_VRs : ∀ (s : List Nat), (∀ n ∈ s, n < 256) → VRs E ρ (ofBytes s) (byteCells (mkS s))
  | [], _ => trivial
  | n :: s, h => by
    have ih := ofBytes_VRs s (fun k hk => h k (by simp [hk]))
    have hn := h n (by simp)
    refine ⟨?_, ?_⟩
    · show Value.int .u8 ((UInt8.ofNat n).toNat : Int) = _
      simp [Nat.mod_eq_of_lt hn]
    · exact ih
/-- what an append's second operand brings -/
theorem src_spec (hS : HR E B ρ S w) {size m : Nat} {l : List AV} {a : AV} {x : Value} {tx : TypeId} (hx : VR E ρ a x) (hk : (∃ e', P.underlying tx = some (.slice e')) ∨ P.underlying tx = some .string) (hs : srcA S size a = some (m, l)) (ho : allOne l = true) :
    ∃ news, VRs E ρ l news ∧ Go.Src P size tx x m news w := by
  unfold srcA at hs
  split at hs
  · cases hs
    simp only [VR] at hx
    subst hx
    exact ⟨[], trivial, hk, fun _ => rfl, rfl, rfl, by simp, fun _ h => by cases h⟩
  · cases hs
    obtain ⟨A, c, rfl⟩ := hx
    have hz : ∀ w', (Builtin.firstCells size 0 (.slice A 0 c)).run P w' = .ok #[] w' := fun w' => by
      cases A <;> simp [Builtin.firstCells, loadCells, loadCellsFrom]
    exact ⟨[], trivial, hk, fun _ => rfl, hz w, hz w.drew, by simp, fun _ h => by cases h⟩
  · rename_i b off n cp
    obtain ⟨g, c, hg, rfl⟩ := hx
    cases hcs : rowOf S b with
    | none => rw [hcs] at hs; cases hs
    | some cs =>
      rw [hcs] at hs
      have hs : oif (sub? cs off (n * size)) none (fun l => some (n, l)) = some (m, l) := hs
      cases hl : sub? cs off (n * size) with
      | none => rw [hl] at hs; cases hs
      | some l' =>
        rw [hl] at hs
        cases hs
        obtain ⟨e', op, hblk⟩ := rowOf_spec hcs
        obtain ⟨xs, hxs, hlen, hcell⟩ := hS.stretch hblk hg hl
        have hcell' : ∀ j u, xs[j]? = some u → w.cell? ((⟨g, off, none⟩ : Addr).add j) = some u := fun j u hj => by rw [add_off]; exact hcell j u hj
        exact ⟨xs, hxs, hk, fun _ => rfl, run_firstCells_some w size m _ m _ xs hlen hcell', run_firstCells_some w.drew size m _ m _ xs hlen (by simpa using hcell'), hlen, hxs.ones (allOne_iff.1 ho)⟩
  · rename_i s
    rw [cnd_eq] at hs
    split at hs
    · rename_i h1
      have h1 := Nat.eq_of_beq_eq_true h1
      subst h1
      cases hs
      obtain ⟨rfl, hb⟩ := hx
      have hsz : (mkS s).size = llen s := by rw [llen_eq]; simp [mkS, ByteArray.size]
      refine ⟨byteCells (mkS s), ofBytes_VRs s hb, hk, fun _ => ?_, ?_, ?_, ?_, ?_⟩
      · simp [Builtin.lenOf, hsz]
      · rw [← hsz]; exact firstCells_string _ w
      · rw [← hsz]; exact firstCells_string _ w.drew
      · rw [byteCells_length, hsz]; omega
      · exact (ofBytes_VRs (E := E) (ρ := ρ) s hb).ones (allOne_iff.1 ho)
    · cases hs
  · cases hs

theorem run_append_room' {t tx ty e : TypeId} {i : TypeInfo} (ht : P.underlying t = some (.slice e)) (hi : P.info? e = some i) {g off sLen sCap n : Nat} {x : Value} {news : List Value} (hs : Go.Src P i.size tx x n news w) (hroom : sLen + n ≤ sCap) {w' : World}
    (hst : (storeCells ⟨g, off + sLen * i.size, none⟩ news 0).run P w = .ok () w') : (Builtin.append_ #[t, tx] ty #[.slice (some ⟨g, off, none⟩) sLen sCap, x]).run P w = .ok (.slice (some ⟨g, off, none⟩) (sLen + n) sCap) w' := by
  rcases hs.kind with ⟨e', hk⟩ | hk <;> simp [Builtin.append_, run_underlying ht, run_underlying hk, sizeOf, typeInfo, hi, hs.len, hroom, hs.cells, Addr.add_lit, hst]
theorem run_append_nil0 {t tx ty e : TypeId} {i : TypeInfo} (ht : P.underlying t = some (.slice e)) (hi : P.info? e = some i) {x : Value} {news : List Value} (hs : Go.Src P i.size tx x 0 news w) :
    (Builtin.append_ #[t, tx] ty #[.slice none 0 0, x]).run P w = .ok (.slice none 0 0) w := by
  rcases hs.kind with ⟨e', hk⟩ | hk <;> simp [Builtin.append_, run_underlying ht, run_underlying hk, sizeOf, typeInfo, hi, hs.len, hs.cells]
theorem grow_fits {need old bytes : Nat} (h1 : old < need) (h2 : need < 1000000) (h3 : bytes ≤ 1048576) : Builtin.nextslicecap need old * bytes ≤ 281474976710656 := by
  have hb : Builtin.nextslicecap need old ≤ 268435456 := by
    unfold Builtin.nextslicecap
    have grow : ∀ (r c : Nat), c ≤ 4000000 + 3 * (4 - r) * 1000000 → r ≤ 4 → Builtin.growBy need r c ≤ 268435456 := by
      intro r
      induction r with
      | zero => intro c hc _; simp only [Builtin.growBy]; omega
      | succ r ih =>
        intro c hc hr
        simp only [Builtin.growBy]
        split
        · omega
        · exact ih _ (by omega) (by omega)
    split
    · omega
    · split
      · omega
      · exact grow 4 old (by omega) (by omega)
  calc Builtin.nextslicecap need old * bytes ≤ 268435456 * 1048576 := Nat.mul_le_mul hb h3
    _ ≤ 281474976710656 := by decide
theorem fits_lt {n : Nat} (h : fits n = true) : n < 1000000 := by simpa [fits] using h
/-- a row that an append has made: what is known, and zeros behind it -/
theorem new_open {S0 : St} {z : Value} {e n size cap : Nat} {cs : List AV} {olds news : List Value} {k : Nat} (hS : HR E B ρ S0 w) (hcs : VRs E ρ cs (olds ++ news)) (hl : (olds ++ news).length = n * size) (hz : z.cells.size = size) (hcap : n ≤ cap) (hm : cap ≤ maxLen) :
    HR E B (ρ.add S0.next (w.drew.heap.size, cap)) (S0.new (.row cs e (some size))) (w.drew.alloc (.cells ((olds ++ news).toArray ++ Builtin.zeroCells z.cells (cap - n)) e)) ∧
      Ext B ρ S0 w (ρ.add S0.next (w.drew.heap.size, cap)) (S0.new (.row cs e (some size))) (w.drew.alloc (.cells ((olds ++ news).toArray ++ Builtin.zeroCells z.cells (cap - n)) e)) ∧
      VR E (ρ.add S0.next (w.drew.heap.size, cap)) (.slice S0.next 0 n (.op 0)) (.slice (some ⟨w.drew.heap.size, 0, none⟩) n cap) := by
  have hle := Ren.le_add (x := (w.drew.heap.size, cap)) hS.next_none
  have hcl := hcs.length
  refine ⟨hS.drew.new _ _ _ ?_, (Ext.drew B ρ S0 w).trans (Ext.new hS.drew _ _ _), ⟨_, _, Ren.add_same _ _ _, rfl⟩⟩
  have hsz : ((olds ++ news).toArray ++ Builtin.zeroCells z.cells (cap - n)).size = cap * size := by
    rw [Array.size_append, List.size_toArray, hl, size_zeroCells, hz, ← Nat.add_mul]
    congr 1
    omega
  refine ⟨_, e, (0, 0), rfl, fun j _ hh => by have := hh.2; simp at this, ?_, ?_, ⟨hsz, hm⟩⟩
  · rw [hcl]
    have : ((olds ++ news).toArray ++ Builtin.zeroCells z.cells (cap - n)).toList.take (olds ++ news).length = olds ++ news := by
      rw [Array.toList_append]
      exact List.take_left
    rw [this]
    exact hcs.mono hle
  · rw [hsz, hcl, hl]
    exact Nat.mul_le_mul_right _ hcap
theorem appN_ok {e size n : Nat} {cs : List AV} (h : appN e size S n cs = .ok (v, S')) : n < 1000000 ∧ v = .slice S.next 0 n (.op 0) ∧ S' = S.new (.row cs e (some size)) := by
  unfold appN at h
  obtain ⟨h1, h2⟩ := cnd_eq_ok h
  rw [seqL_eq] at h2
  obtain ⟨h3, h4⟩ := rok_ok h2
  exact ⟨fits_lt h1, h3, h4⟩
/-- the model's append, told of the operation -/
theorem app_exec {c : Call} {t tx : TypeId} {s x : Operand} {y : Value} {w' : World} (ho : o.op = .call c) (hb : c.callee = .builtin .append) (ha : c.args = #[s, x]) (ht : c.argTypes = #[t, tx]) (hr : (Builtin.append_ #[t, tx] o.type #[f s, f x]).run P w = .ok y w') :
    (execOp f o).run P w = .ok (.value y) w' := by
  obtain ⟨cs, hex⟩ := exec_builtin (P := P) (f := f) ho hb
  rw [hex w, ha, ht]
  simp only [List.map_toArray, List.map_cons, List.map_nil, builtin, Sem.run_bind, hr, Result.andThen_ok, Sem.run_pure]
theorem e_app (hS : HR E B ρ S w) {c : Call} {t tx e n : TypeId} {z : List AV} {sa xa : XA} (ho : o.op = .call c) (hb : c.callee = .builtin .append) (hH : ∀ x ∈ c.args.toList, Hop E ρ f tm x) (ha : XA.ofs c.args.toList = some [sa, xa]) (ht : c.argTypes.toList = [t, tx])
    (hsl : cSlice P t = some (e, n, z)) (hk : (∃ e', P.underlying tx = some (.slice e')) ∨ P.underlying tx = some .string) (hr : (XOp.app e n sa xa).run fs call tm S = .ok (v, S')) : EffG P E B ρ S w S' f o v := by
  have hr : appA e n S (ev sa tm) (ev xa tm) = .ok (v, S') := hr
  obtain ⟨s, x, hax, hsa, hxa⟩ := ofs_args2 ha
  have hsv := hH s (by rw [hax]; simp) sa hsa
  have hxv := hH x (by rw [hax]; simp) xa hxa
  have hat : c.argTypes = #[t, tx] := by rw [← Array.toArray_toList (xs := c.argTypes), ht]
  obtain ⟨hu, i, hi, rfl, hz, hpos, hbytes⟩ := cSlice_spec hsl
  obtain ⟨i', zx, hi', hzx, hzv, hz1, hzl⟩ := cZero_spec (E := E) (ρ := ρ) hz
  rw [hi] at hi'; cases hi'
  have hzs : zx.cells.size = i.size := by rw [← Array.length_toList, ← hzv.length, hzl]
  unfold appA at hr
  obtain ⟨⟨m, l⟩, hsrc, r1⟩ := oif_eq_ok hr
  -- a new row: the runner's S0 may have given up a block
  have grow : ∀ (S0 : St) (base : Option Addr) (sLen sCap : Nat) (old : List AV) (olds news : List Value) , HR E B ρ S0 w → Ext B ρ S w ρ S0 w → f s = .slice base sLen sCap → sCap < sLen + m → VRs E ρ old olds → olds.length = sLen * i.size →
      (Builtin.firstCells i.size sLen (.slice base sLen sCap)).run P w.drew = .ok olds.toArray w.drew → VRs E ρ l news → Go.Src P i.size tx (f x) m news w → appN e i.size S0 (sLen + m) (old ++ l) = .ok (v, S') → EffG P E B ρ S w S' f o v := by
    intro S0 base sLen sCap old olds news hS0 hE0 hfs hlt hold holdl hfirst hnews hSrc hap
    obtain ⟨hfit, rfl, rfl⟩ := appN_ok hap
    have hrun := run_append_grow_src w t tx o.type e i zx hu hi hzx base sLen sCap olds hfirst (f x) m news hSrc hlt (by omega) (grow_fits hlt hfit hbytes)
    obtain ⟨h1, h2, h3⟩ := new_open (e := e) (k := 0) hS0 (hold.append hnews) (n := sLen + m) (size := i.size) (cap := grownCap w (sLen + m) sCap e) (by rw [List.length_append, holdl, hSrc.newsLen, Nat.add_mul]) hzs (grownCap_ge ..) (grownCap_le_maxLen _ _ _ _ (by simp only [maxLen]; omega))
    exact ⟨_, _, _, _, app_exec ho hb hax hat (by rw [hfs]; exact hrun), .inl rfl, h3, h1, hE0.trans h2⟩
  split at r1
  · rename_i hbs
    rw [hbs] at hsv
    simp only [VR] at hsv
    rw [cnd_eq] at r1
    split at r1
    · rename_i hm
      have hm : m = 0 := Nat.eq_of_beq_eq_true hm
      subst hm
      obtain ⟨rfl, rfl⟩ := rok_ok r1
      by_cases ho1 : allOne l = true
      · obtain ⟨news, hnews, hSrc⟩ := src_spec hS hxv hk hsrc ho1
        exact ⟨ρ, _, w, _, app_exec ho hb hax hat (by rw [hsv]; exact run_append_nil0 hu hi hSrc), .inl rfl, rfl, hS, Ext.refl B ρ _ w⟩
      · -- nothing is brought: no cell
        exfalso
        apply ho1
        unfold srcA at hsrc
        split at hsrc
        · cases hsrc; rfl
        · cases hsrc; rfl
        · rename_i b off n' cp _
          cases hcs : rowOf S' b with
          | none => rw [hcs] at hsrc; cases hsrc
          | some cs =>
            rw [hcs] at hsrc
            have hsrc : oif (sub? cs off (n' * i.size)) none (fun l => some (n', l)) = some (0, l) := hsrc
            cases hl : sub? cs off (n' * i.size) with
            | none => rw [hl] at hsrc; cases hsrc
            | some l' =>
              rw [hl] at hsrc
              cases hsrc
              obtain ⟨_, h2⟩ := sub?_spec hl
              rw [Nat.zero_mul] at h2
              rw [List.eq_nil_of_length_eq_zero h2]; rfl
        · rename_i q _
          rw [cnd_eq] at hsrc
          split at hsrc
          · simp only [Option.some.injEq, Prod.mk.injEq] at hsrc
            obtain ⟨h1, rfl⟩ := hsrc
            rw [llen_eq] at h1
            rw [List.eq_nil_of_length_eq_zero h1]; rfl
          · cases hsrc
        · cases hsrc
    · rename_i hm
      obtain ⟨ho1, r2⟩ := cnd_eq_ok r1
      obtain ⟨news, hnews, hSrc⟩ := src_spec hS hxv hk hsrc ho1
      have hm : 0 < m := by
        rcases Nat.eq_zero_or_pos m with h | h
        · subst h; exact absurd rfl hm
        · exact h
      exact grow S none 0 0 [] [] news hS (Ext.refl B ρ S w) hsv (by omega) trivial (by simp) rfl hnews hSrc (by rw [Nat.zero_add]; exact r2)
  · rename_i b off len cp hbs
    rw [hbs] at hsv
    obtain ⟨g, cc, hg, hsv⟩ := hsv
    obtain ⟨k, hk', r2⟩ := oif_eq_ok r1
    split at r2
    · rename_i cs e' op
      unfold appX at r2
      rw [seqN_eq] at r2
      obtain ⟨ho1, r3⟩ := cnd_eq_ok r2
      obtain ⟨news, hnews, hSrc⟩ := src_spec hS hxv hk hsrc ho1
      -- what lay there
      have lay : ∀ (old : List AV), sub? cs off (len * i.size) = some old → ∃ olds, VRs E ρ old olds ∧ olds.length = len * i.size ∧ ∀ c', (Builtin.firstCells i.size len (.slice (some ⟨g, off, none⟩) len c')).run P w.drew = .ok olds.toArray w.drew := fun old hold => by
        obtain ⟨xs, hxs, hlen, hcell⟩ := hS.stretch hk' hg hold
        exact ⟨xs, hxs, hlen, fun c' => run_firstCells_some w.drew i.size len _ len c' xs hlen (fun j u hj => by rw [add_off]; exact hcell j u hj)⟩
      split at r3
      · rename_i cpx
        have hsv : f s = .slice (some ⟨g, off, none⟩) len cpx := hsv
        rw [cnd_eq] at r3
        split at r3
        · rename_i hroom
          have hroom : len + m ≤ cpx := by simpa using hroom
          obtain ⟨cs', hcs, rfl, rfl⟩ := setRow_ok r3
          obtain ⟨w', hst, hH', hE'⟩ := hS.lay P hk' hg hcs hnews (allOne_iff.1 ho1)
          exact ⟨ρ, _, w', _, app_exec ho hb hax hat (by rw [hsv]; exact run_append_room' hu hi hSrc hroom hst), .inl rfl, ⟨g, cc, hg, rfl⟩, hH', hE'⟩
        · rename_i hroom
          have hroom : cpx < len + m := by simpa using hroom
          obtain ⟨old, hold, r4⟩ := oif_eq_ok r3
          obtain ⟨olds, h1, h2, h3⟩ := lay old hold
          exact grow S _ len cpx old olds news hS (Ext.refl B ρ S w) hsv hroom h1 h2 (h3 _) hnews hSrc r4
      · rename_i kk
        have hsv : f s = .slice (some ⟨g, off, none⟩) len (cc - kk) := hsv
        unfold appO at r3
        split at r3
        · rename_i s'
          obtain ⟨c1, r4⟩ := cnd_eq_ok r3
          obtain ⟨c2, r5⟩ := cnd_eq_ok r4
          have c1 := Nat.eq_of_beq_eq_true c1
          have c2 := Nat.eq_of_beq_eq_true c2
          obtain ⟨vs, tt, fz, hgw, hfz, hvs, hle, hsz⟩ := hS.row hk' hg
          have hsz : vs.size = cc * s' ∧ cc ≤ maxLen := hsz
          cases hov : over? l (off + len * i.size) cs with
          | some cs' =>
            rw [hov] at r5
            have r5 : seqL cs' (fun cs => rok (.slice b off (len + m) (.op kk)) (S.set b (.row cs e' (some s')))) = .ok (v, S') := r5
            rw [seqL_eq] at r5
            obtain ⟨rfl, rfl⟩ := rok_ok r5
            obtain ⟨w', hst, hH', hE'⟩ := hS.lay P hk' hg hov hnews (allOne_iff.1 ho1)
            have hroom : len + m ≤ cc - kk := by
              obtain ⟨_, hfit⟩ := over?_spec _ _ _ _ hov
              have hnl : l.length = m * i.size := by rw [hnews.length, hSrc.newsLen]
              have : (kk + (len + m)) * i.size ≤ cc * i.size := by
                rw [Nat.add_mul, Nat.add_mul, ← c2, ← c1, ← hsz.1]
                rw [c1]
                omega
              have := Nat.le_of_mul_le_mul_right this hpos
              omega
            exact ⟨ρ, _, w', _, app_exec ho hb hax hat (by rw [hsv]; exact run_append_room' hu hi hSrc hroom hst), .inl rfl, ⟨g, cc, hg, rfl⟩, hH', hE'⟩
          | none =>
            rw [hov] at r5
            have r5 : cnd (Nat.beq kk 0) (oif (sub? cs 0 (len * i.size)) (err "append") fun old => appN e i.size (S.drop b) (len + m) (old ++ l)) (err "append inside") = .ok (v, S') := r5
            obtain ⟨c3, r6⟩ := cnd_eq_ok r5
            have c3 := Nat.eq_of_beq_eq_true c3
            subst c3
            rw [Nat.zero_mul] at c2
            subst c2
            rw [Nat.sub_zero] at hsv
            obtain ⟨old, hold, r7⟩ := oif_eq_ok r6
            obtain ⟨olds, h1, h2, h3⟩ := lay old hold
            by_cases hroom : len + m ≤ cc
            · -- there is room: the block gets another name
              obtain ⟨hfit, rfl, rfl⟩ := appN_ok r7
              have hnl : news.length = m * i.size := hSrc.newsLen
              have hvsz : vs.size = cc * i.size := by rw [hsz.1, c1]
              have hmm : len * i.size + m * i.size ≤ cc * i.size := by rw [← Nat.add_mul]; exact Nat.mul_le_mul_right _ hroom
              have hst := run_storeCells_row (P := P) g (0 + len * i.size) tt fz news 0 vs w hgw hfz (by omega) (hnews.ones (allOne_iff.1 ho1))
              have hol : old = cs.take (len * i.size) ∧ len * i.size ≤ cs.length := by
                obtain ⟨h4, h5⟩ := sub?_spec hold
                rw [List.drop_zero] at h4
                refine ⟨h4, ?_⟩
                rw [h4, List.length_take] at h5
                omega
              have hren := Ren.le_add (x := (g, cc)) hS.next_none
              have hcl : (old ++ l).length = (len + m) * i.size := by rw [List.length_append, h1.length, h2, hnews.length, hnl, Nat.add_mul]
              refine ⟨_, _, _, _, app_exec ho hb hax hat (by rw [hsv]; exact run_append_room' hu hi hSrc hroom hst), .inl rfl, ⟨g, cc, Ren.add_same _ _ _, rfl⟩,
                hS.move hk' hg (by simp) (setRow_heap w g vs _ tt fz hgw) (fun j hj => setRow_other w g j _ hj) cc ?_, Ext.move hS hk' hg (by simp) (fun j hj => setRow_other w g j _ hj) cc rfl rfl rfl⟩
              have hvl : (vs.toList.take (0 + len * i.size + 0) ++ news ++ vs.toList.drop (0 + len * i.size + 0 + news.length)).toArray.size = vs.size := by simp; omega
              refine ⟨_, tt, fz, rfl, by rw [hvl]; exact hfz, ?_, by rw [hvl, hcl, hvsz]; exact Nat.mul_le_mul_right _ hroom, by rw [hvl]; exact ⟨hvsz, hsz.2⟩⟩
              have etake : (vs.toList.take (0 + len * i.size + 0) ++ news ++ vs.toList.drop (0 + len * i.size + 0 + news.length)).toArray.toList.take (old ++ l).length = vs.toList.take (len * i.size) ++ news := by
                simp only [Nat.zero_add, Nat.add_zero]
                rw [List.take_left' (by rw [List.length_append, List.length_take, Array.length_toList, hcl, hnl, Nat.add_mul]; omega)]
              rw [etake, hol.1]
              have hv2 := hvs.take (len * i.size)
              rw [List.take_take, Nat.min_eq_left hol.2] at hv2
              exact (hv2.append hnews).mono hren
            · exact grow (S.drop b) _ len cc old olds news (hS.drop b) (Ext.drop B ρ S w hg) hsv (by omega) h1 h2 (h3 _) hnews hSrc r7
        · exact (err_ok r3).elim
    · exact (err_ok r2).elim
  · exact (err_ok r1).elim
theorem e_apz (hS : HR E B ρ S w) {c : Call} {t tx e n : TypeId} {z : List AV} {kn : IntKind} {sa xa : XA} (ho : o.op = .call c) (hb : c.callee = .builtin .append) (hH : ∀ x ∈ c.args.toList, Hop E ρ f tm x) (ha : XA.ofs c.args.toList = some [sa, xa]) (ht : c.argTypes.toList = [t, tx])
    (hsl : cSlice P t = some (e, n, z)) (hk : P.underlying tx = some (.int kn)) (hr : (XOp.apz e n z sa xa).run fs call tm S = .ok (v, S')) : EffG P E B ρ S w S' f o v := by
  have hr : apzA e n z S (ev sa tm) (ev xa tm) = .ok (v, S') := hr
  obtain ⟨s, x, hax, hsa, hxa⟩ := ofs_args2 ha
  have hsv := hH s (by rw [hax]; simp) sa hsa
  have hxv := hH x (by rw [hax]; simp) xa hxa
  have hat : c.argTypes = #[t, tx] := by rw [← Array.toArray_toList (xs := c.argTypes), ht]
  obtain ⟨hu, i, hi, rfl, hz, hpos, hbytes⟩ := cSlice_spec hsl
  obtain ⟨i', zx, hi', hzx, hzv, hz1, hzl⟩ := cZero_spec (E := E) (ρ := ρ) hz
  rw [hi] at hi'; cases hi'
  have hzs : zx.cells.size = i.size := by rw [← Array.length_toList, ← hzv.length, hzl]
  unfold apzA at hr
  split at hr
  · rename_i hbs
    rw [hbs] at hsv
    simp only [VR] at hsv
    obtain ⟨⟨m, l⟩, hzer, r1⟩ := oif_eq_ok hr
    unfold zerA at hzer
    split at hzer
    · rename_i q hbx
      rw [hbx] at hxv
      simp only [VR] at hxv
      rw [cnd_eq] at hzer
      split at hzer
      · rename_i hf
        cases hzer
        have hfl := fits_lt hf
        rw [cnd_eq] at r1
        split at r1
        · rename_i hm
          exact (err_ok r1).elim
        · rename_i hm
          have hm : 0 < m := by
            rcases Nat.eq_zero_or_pos m with h | h
            · subst h; exact absurd rfl hm
            · exact h
          obtain ⟨hfit, rfl, rfl⟩ := appN_ok r1
          have hbm : m * i.bytes ≤ 281474976710656 := by
            calc m * i.bytes ≤ 1000000 * 1048576 := Nat.mul_le_mul (by omega) hbytes
              _ ≤ 281474976710656 := by decide
          have hrun := Lib.run_append_nil_zeros (P := P) w t tx o.type e i zx .i64 kn hu hk hi hzx m hm hpos (by omega) hbm
          have hzc : (Builtin.zeroCells zx.cells m).toList = (List.replicate m zx.cells.toList).flatten := by
            unfold Builtin.zeroCells
            rw [Array.toList_map, Array.toList_range, reps_eq]
          have hrun' : Builtin.zeroCells zx.cells m = ([] ++ (List.replicate m zx.cells.toList).flatten).toArray := by rw [List.nil_append, ← hzc, Array.toArray_toList]
          rw [hrun'] at hrun
          obtain ⟨h1, h2, h3⟩ := new_open (e := e) (k := 0) (olds := []) hS (by rw [List.nil_append]; exact reps_VRs hzv m) (n := m) (size := i.size) (cap := grownCap w m 0 e) (by
            rw [List.nil_append, ← (reps_VRs (E := E) (ρ := ρ) hzv m).length, reps_length, hzl]) hzs (grownCap_ge ..) (grownCap_le_maxLen _ _ _ _ (by simp only [maxLen]; omega))
          exact ⟨_, _, _, _, app_exec ho hb hax hat (by rw [hsv, hxv]; exact hrun), .inl rfl, h3, h1, h2⟩
      · cases hzer
    · cases hzer
  · exact (err_ok hr).elim
end
end Go.Proofs.YtdimeaooekhkhaaGreat.AX
