/- Proved: functions that are not run: what the runner says of them is what they do. No function of the program is walked here. -/
import Derived.Test.YtdimeaooekhkhaaGreatAxCode
import Derived.Test.YtdimeaooekhkhaaGreatAxExt0
import Derived.Laws.Externs
import Derived.MapKept
set_option linter.unusedVariables false
set_option linter.unusedSimpArgs false
namespace Go.Proofs.YtdimeaooekhkhaaGreat.AX
open Go.RowKit

section
variable {P : Program} {E : Env} {B : Nat} {ρ : Ren} {S S' : St} {w w' : World} {f : Nat}

/-- nothing that lay there has turned -/
theorem HR.below (h : HR E B ρ S w) (hb : Below w.heap.size w w') : HR E B ρ S w' ∧ Ext B ρ S w ρ S w' :=
  ⟨⟨Nat.le_trans h.base hb.size, fun b k g c hk hr => by rw [hb.block g (h.place hk hr)]; exact h.blk b k g c hk hr, h.inj, h.next, h.fresh⟩, ⟨Ren.le.refl ρ, fun _ _ hn => ⟨hn, rfl⟩, Nat.le_refl _, hb.mono h.base⟩⟩
/-- a new block of the world's becomes one of the runner's -/
theorem HR.adopt (h : HR E B ρ S w) (hb : Below w.heap.size w w') {g c : Nat} {o : Obj} {k : Blk} (hg : w.heap.size ≤ g) (hw : w'.heap[g]? = some o) (ho : OR E (ρ.add S.next (g, c)) k c o) :
    HR E B (ρ.add S.next (g, c)) (S.new k) w' ∧ Ext B ρ S w (ρ.add S.next (g, c)) (S.new k) w' := by
  have hle := Ren.le_add (x := (g, c)) h.next_none
  have h' := (h.below hb).1
  refine ⟨⟨Nat.le_trans h.base hb.size, fun b k' g' c' hk hr => ?_, fun b b' k1 k2 g' c1 c2 hk hk' hr hr' => ?_, fun b x hx => ?_, fun b k' hk => ?_⟩,
    ⟨hle, fun b hbl hn => ⟨by rw [Ren.add_other (by omega)]; exact hn, by rw [get_new, if_neg (by omega)]⟩, by rw [next_new]; omega, hb.mono h.base⟩⟩
  · rw [get_new] at hk
    by_cases e : b = S.next
    · subst e
      rw [if_pos rfl] at hk
      cases hk
      rw [Ren.add_same] at hr
      cases hr
      exact ⟨Nat.le_trans h.base hg, o, hw, ho⟩
    · rw [if_neg e] at hk
      rw [Ren.add_other e] at hr
      obtain ⟨q1, o', q2, q3⟩ := h'.blk b k' g' c' hk hr
      exact ⟨q1, o', q2, q3.mono hle⟩
  · rw [get_new] at hk hk'
    by_cases e : b = S.next
    · by_cases e' : b' = S.next
      · rw [e, e']
      · subst e
        rw [if_neg e'] at hk'
        rw [Ren.add_same] at hr
        cases hr
        rw [Ren.add_other e'] at hr'
        have := h.place hk' hr'
        omega
    · by_cases e' : b' = S.next
      · subst e'
        rw [if_neg e] at hk
        rw [Ren.add_same] at hr'
        cases hr'
        rw [Ren.add_other e] at hr
        have := h.place hk hr
        omega
      · rw [if_neg e] at hk
        rw [if_neg e'] at hk'
        rw [Ren.add_other e] at hr
        rw [Ren.add_other e'] at hr'
        exact h.inj b b' k1 k2 g' c1 c2 hk hk' hr hr'
  · rw [next_new]
    by_cases e : b = S.next
    · omega
    · rw [Ren.add_other e] at hx; have := h.next b x hx; omega
  · rw [next_new]
    rw [get_new] at hk
    split at hk
    · omega
    · have := h.fresh b k' hk; omega

theorem mapOf_some {r : Nat} {p : List Ent × Nat} (h : mapOf S r = some p) : S.heap.get r = some (.map p.1 p.2) := by
  unfold mapOf at h
  cases hg : S.heap.get r with
  | none => rw [hg] at h; cases h
  | some k => rw [hg] at h; cases k <;> first | (cases h; rfl) | cases h

theorem run_maps_clone_ax {r : Nat} {es : Array MapEntry} {clock : Nat} (t : TypeId) (hb : w.heap[r]? = some (.map es clock)) :
    (Extern.MapsClone.clone #[.iface t (.map (some r))]).run P w = .ok (.iface t (.map (some w.heap.size))) (w.alloc (.map es clock)) := by
  have e : Extern.MapsClone.clone #[.iface t (.map (some r))] = (getObj r >>= fun o => match o with
      | .map entries clock => (newObj (.map entries clock) >>= fun n => pure (.iface t (.map (some n))))
      | _ => stuck _) := rfl
  rw [e]
  simp [MapKept.run_getObj_map hb, Result.andThen, go_sem]
theorem ext_clone (hf : ∀ xs w, (callFunc f xs).run P w = ((Extern.MapsClone.clone xs).run P w).andThen fun v w' => .ok (.value v) w') : ExtOK P E f xMapsClone := by
  intro call _ args S v S' h B ρ w xs hx hS
  unfold xMapsClone at h
  split at h
  · rename_i t r
    obtain ⟨p, h1, h2⟩ := oif_eq_ok h
    obtain ⟨rfl, rfl⟩ := rok_ok h2
    have hb := mapOf_some h1
    obtain ⟨x, m, hxs, hv, hm⟩ := VRs.cons_iff.1 hx
    rw [VRs.nil_iff.1 hm] at hxs
    obtain ⟨y, rfl, g, c, hg, rfl⟩ := hv
    obtain ⟨_, o, ho, ms, rfl, hms⟩ := hS.blk r _ g c hb hg
    have hxs : xs = #[.iface t (.map (some g))] := Array.toList_inj.1 (by simpa using hxs)
    subst hxs
    left
    refine ⟨.iface t (.map (some w.heap.size)), w.alloc (.map ms p.2), by rw [hf, run_maps_clone_ax t ho]; rfl, ρ.add S.next (w.heap.size, 0), ⟨_, rfl, _, _, Ren.add_same _ _ _, rfl⟩, hS.new _ 0 _ ⟨ms, rfl, hms.mono (Ren.le_add hS.next_none)⟩, Ext.new hS _ 0 _⟩
  · cases h
theorem ext_add64 (hf : ∀ xs w, (callFunc f xs).run P w = ((add64Entry xs).run P w).andThen fun v w' => .ok (.value v) w') : ExtOK P E f xAdd64 := by
  intro call _ args S v S' h B ρ w xs hx hS
  unfold xAdd64 at h
  split at h
  · rename_i a b c
    obtain ⟨h1, h2⟩ := cnd_eq_ok h
    rw [seqN_eq, seqN_eq] at h2
    obtain ⟨rfl, rfl⟩ := rok_ok h2
    obtain ⟨x, m, hxs, hv, hm⟩ := VRs.cons_iff.1 hx
    obtain ⟨y, m2, rfl, hv2, hm2⟩ := VRs.cons_iff.1 hm
    obtain ⟨z, m3, rfl, hv3, hm3⟩ := VRs.cons_iff.1 hm2
    rw [VRs.nil_iff.1 hm3] at hxs
    have hv : x = .int .u64 (a : Int) := hv
    have hv2 : y = .int .u64 (b : Int) := hv2
    have hv3 : z = .int .u64 (c : Int) := hv3
    subst hv; subst hv2; subst hv3
    have hxs : xs = #[.int .u64 (a : Int), .int .u64 (b : Int), .int .u64 (c : Int)] := Array.toList_inj.1 (by simpa using hxs)
    subst hxs
    have hc : c < 2 := by simpa [Nat.blt_eq] using h1
    left
    refine ⟨_, w, by rw [hf, run_add64 (P := P) a b c (by omega) (by omega) (by omega) (by omega)]; rfl, ρ, ⟨_, rfl, ?_⟩, hS, Ext.refl B ρ _ w⟩
    refine ⟨?_, ?_, trivial⟩
    · show _ = Value.int .u64 (((a + b + c) % 18446744073709551616 : Nat) : Int)
      simp
    · show _ = Value.int .u64 (((a + b + c) / 18446744073709551616 : Nat) : Int)
      simp
  · cases h
theorem ext_strClone (hf : ∀ xs w, (callFunc f xs).run P w = .ok (.enter f xs) w) (hc : ∀ (s : ByteArray) w, s.size ≤ 281474976710656 → Calls P f #[.string s] w fun e w' => e = .returned (.string s) ∧ Below w.heap.size w w') : ExtOK P E f xClone := by
  intro call _ args S v S' h B ρ w xs hx hS
  unfold xClone at h
  split at h
  · rename_i l
    obtain ⟨h1, h2⟩ := cnd_eq_ok h
    obtain ⟨rfl, rfl⟩ := rok_ok h2
    obtain ⟨x, m, hxs, ⟨rfl, hl⟩, hm⟩ := VRs.cons_iff.1 hx
    rw [VRs.nil_iff.1 hm] at hxs
    have hxs : xs = #[.string (mkS l)] := Array.toList_inj.1 (by simpa using hxs)
    subst hxs
    right
    refine ⟨hf _ _, Calls.mono (hc (mkS l) w ?_) fun e w' he => ?_⟩
    · have h1 : llen l < 1000000 := by simpa [fits, Nat.blt_eq] using h1
      rw [llen_eq'] at h1
      have : (mkS l).size = l.length := by simp [mkS, ByteArray.size]
      omega
    · obtain ⟨rfl, hb⟩ := he
      obtain ⟨q1, q2⟩ := hS.below hb
      exact ⟨ρ, ⟨rfl, hl⟩, q1, q2⟩
  · cases h
end
end Go.Proofs.YtdimeaooekhkhaaGreat.AX
