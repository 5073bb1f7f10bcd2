/- Proved: slices.AppendSeq of a nil slice, against an iterator that gives nothing, is nil; and such iterators: maps.Keys at a nil map, and at one without entries. Nothing that lay there turns. -/
import Derived.Test.YtdimeaooekhkhaaGreatSorts
import Derived.RangeFuncLeaves
import Derived.RangeFuncRecord
import Derived.WalkKit
import Derived.OwnWalkIn
import Derived.TacticsInMore
import Derived.LoopNIn
import Derived.LoopIn
set_option linter.unusedVariables false
set_option linter.unusedSimpArgs false
namespace Go.Proofs.YtdimeaooekhkhaaGreat.AX
open Go.RowKit Go.Maps Go.Sort Go.Shelf Go.Proofs
/-- an iterator that gives nothing -/
def Gives0 (P : Program) (g : Nat) (lb : Array Value) (w : World) : Prop := ∀ (l : Nat) (W : World), Below w.heap.size w W →
  CallsIn Fence.wide 5 P g (#[.func (.yield l) #[] #[]] ++ lb) W fun e W' => (∃ v, e = .returned v) ∧ Below W.heap.size W W'
theorem heapBox {W : World} {B : Nat} {v : Value} {t : TypeId} (h : W.heap[B]? = some (.cells #[v] t (0, 0))) : W.cell? ⟨B, 0, none⟩ = some v ∧ W.frozen? ⟨B, 0, none⟩ = false := by
  constructor <;> simp [World.cell?, World.frozen?, h]
theorem putGrown (W : World) (l : Nat) (o : Obj) : W.grownBy (W.putObj l o) (some l) :=
  ⟨rfl, rfl, rfl, by simp, fun k _ hk => World.putObj_heap_other (fun e => hk (by rw [e]))⟩
set_option maxRecDepth 100000 in
set_option maxHeartbeats 2000000 in
theorem append0_410 (g : Nat) (lb : Array Value) (eg : ∀ args w, (callFunc g args).run Tryz.prog w = .ok (.enter g args) w) (w : World) (hseq : Gives0 Tryz.prog g lb w) :
    Calls Tryz.prog 410 #[.slice none 0 0, .func (.func g) #[] lb] w fun e w' => e = .returned (.slice none 0 0) ∧ Below w.heap.size w w' := by
  refine (callsIn_wide (n := 6)).1 ?_
  refine callsIn_of_wp_marks Tryz.func410 rfl trivial ?_ rfl
  simp only [Tryz.ntmps410, List.size_toArray, List.length_cons, List.length_nil, Nat.reduceAdd, Nat.reduceSub, Array.replicate_succ, Array.replicate_zero, List.push_toArray, List.append_toArray, List.nil_append, List.cons_append]
  gi_wp2
  generalize Code.region 2 _ _ = asg
  generalize Code.block 1 _ = bd
  refine wpIn_rangeFunc ?_
  intro fn hfn
  obtain ⟨W0, hW0⟩ : ∃ W0, w.alloc (.cells #[.slice none 0 0] 214) = W0 := ⟨_, rfl⟩
  have hs0 : W0.heap.size = w.heap.size + 1 := by rw [← hW0]; simp
  have hv0 : W0.heap[w.heap.size]? = some (.cells #[.slice none 0 0] 214 (0, 0)) := by rw [← hW0]; exact World.alloc_heap_new w _
  have hb0 : Below w.heap.size w W0 := by rw [← hW0]; exact (Below.refl _ w).alloc (Nat.le_refl _) _
  rw [hW0]
  obtain ⟨R, hR⟩ : ∃ R : Loop, R = { state := .ready, pending := none, fn := fn, tmps := #[.slice none 0 0, .func (.func g) #[] lb, .pointer (some ⟨w.heap.size, 0, none⟩), undef, .slice none 0 0, undef, .func (.func g) #[] lb, undef, undef, undef, undef, undef, undef], params := #[7], assign := asg, body := bd, defers := W0.heap.size } := ⟨_, rfl⟩
  obtain ⟨W1, hW1⟩ : ∃ W1, (W0.alloc (.deferred (some []))).alloc (.loop R) = W1 := ⟨_, rfl⟩
  have hold : ∀ k, k < W0.heap.size → W1.heap[k]? = W0.heap[k]? := fun k hk => by
    rw [← hW1]; exact (Below.heap_alloc _ _ k (by simp; omega)).trans (Below.heap_alloc _ _ k hk)
  have hb1 : Below w.heap.size w W1 := by rw [← hW1]; exact (hb0.alloc hb0.size _).alloc (by have := hb0.size; simp; omega) _
  have hs1 : W1.heap.size = W0.heap.size + 2 := by rw [← hW1]; simp
  have hL : W1.heap[W0.heap.size + 1]? = some (.loop R) := by rw [← hW1]; have := World.alloc_heap_new (W0.alloc (.deferred (some []))) (.loop R); rwa [World.size_alloc] at this
  have hK : W1.heap[W0.heap.size]? = some (.deferred (some [])) := by rw [← hW1]; exact (Below.heap_alloc _ _ _ (by simp)).trans (World.alloc_heap_new W0 _)
  refine ⟨W0.heap.size + 1, [{ target := .collected W0.heap.size, args := #[] }], W1, { target := .fn (.func g) lb, args := #[.func (.yield (W0.heap.size + 1)) #[] #[]] }, W1, g,
    #[.func (.yield (W0.heap.size + 1)) #[] #[]] ++ lb, W1, ?_, ?_, ?_, ?_, fun _ => by decide, ?_⟩
  · rw [← hW1, hR]; exact run_enterLoop_outer _ _ _ _ _
  · simp [resolve, go_sem]
  · intro f' hf'; trivial
  · simp [invoke, go_sem, eg]
  · refine (hseq (W0.heap.size + 1) W1 hb1).mono ?_
    rintro e W2 ⟨⟨v0, rfl⟩, h2⟩
    have hv2 : W2.heap[w.heap.size]? = some (.cells #[.slice none 0 0] 214 (0, 0)) := (h2.block _ (by omega)).trans ((hold _ (by omega)).trans hv0)
    have hL2 := (h2.block (W0.heap.size + 1) (by omega)).trans hL
    have hK2 := (h2.block W0.heap.size (by omega)).trans hK
    have hend := run_endLoop (P := Tryz.prog) hL2 (by rw [hR]; simp)
    obtain ⟨W3, hW3⟩ : ∃ W3, W2.putObj (W0.heap.size + 1) (.loop { R with state := .exhausted }) = W3 := ⟨_, rfl⟩
    rw [hW3] at hend
    have hv3 : W3.heap[w.heap.size]? = some (.cells #[.slice none 0 0] 214 (0, 0)) := by rw [← hW3]; exact (World.putObj_heap_other (by omega)).trans hv2
    have hK3 : W3.heap[W0.heap.size]? = some (.deferred (some [])) := by rw [← hW3]; exact (World.putObj_heap_other (by omega)).trans hK2
    have hb3 : Below w.heap.size w W3 := (hb1.trans (h2.mono (by omega))).grown (by rw [← hW3]; exact putGrown _ _ _) (by have := h2.size; omega) (fun k e => by cases e; omega)
    have hp : R.pending = none := by rw [hR]
    rw [hp] at hend
    obtain ⟨hc3, hf3⟩ := heapBox hv3
    clear hW3
    refine ⟨none, W3, hend, ?_⟩
    gi_wp2
    rw [← hs0]
    refine ⟨by simp, .inl ⟨_, _, rfl, run_takeDeferred hK3, ?_⟩⟩
    exact ⟨_, results_tmp rfl _ _ _, rfl, hb3.grown (putGrown _ _ _) hb3.size (fun k e => by cases e; omega)⟩
set_option maxRecDepth 100000 in
set_option maxHeartbeats 2000000 in
theorem append0_388 (g : Nat) (lb : Array Value) (eg : ∀ args w, (callFunc g args).run Tryz.prog w = .ok (.enter g args) w) (w : World) (hseq : Gives0 Tryz.prog g lb w) :
    Calls Tryz.prog 388 #[.slice none 0 0, .func (.func g) #[] lb] w fun e w' => e = .returned (.slice none 0 0) ∧ Below w.heap.size w w' := by
  refine (callsIn_wide (n := 6)).1 ?_
  refine callsIn_of_wp_marks Tryz.func388 rfl trivial ?_ rfl
  simp only [Tryz.ntmps388, List.size_toArray, List.length_cons, List.length_nil, Nat.reduceAdd, Nat.reduceSub, Array.replicate_succ, Array.replicate_zero, List.push_toArray, List.append_toArray, List.nil_append, List.cons_append]
  gi_wp2
  generalize Code.region 2 _ _ = asg
  generalize Code.block 1 _ = bd
  refine wpIn_rangeFunc ?_
  intro fn hfn
  obtain ⟨W0, hW0⟩ : ∃ W0, w.alloc (.cells #[.slice none 0 0] 365) = W0 := ⟨_, rfl⟩
  have hs0 : W0.heap.size = w.heap.size + 1 := by rw [← hW0]; simp
  have hv0 : W0.heap[w.heap.size]? = some (.cells #[.slice none 0 0] 365 (0, 0)) := by rw [← hW0]; exact World.alloc_heap_new w _
  have hb0 : Below w.heap.size w W0 := by rw [← hW0]; exact (Below.refl _ w).alloc (Nat.le_refl _) _
  rw [hW0]
  obtain ⟨R, hR⟩ : ∃ R : Loop, R = { state := .ready, pending := none, fn := fn, tmps := #[.slice none 0 0, .func (.func g) #[] lb, .pointer (some ⟨w.heap.size, 0, none⟩), undef, .slice none 0 0, undef, .func (.func g) #[] lb, undef, undef, undef, undef, undef, undef], params := #[7], assign := asg, body := bd, defers := W0.heap.size } := ⟨_, rfl⟩
  obtain ⟨W1, hW1⟩ : ∃ W1, (W0.alloc (.deferred (some []))).alloc (.loop R) = W1 := ⟨_, rfl⟩
  have hold : ∀ k, k < W0.heap.size → W1.heap[k]? = W0.heap[k]? := fun k hk => by
    rw [← hW1]; exact (Below.heap_alloc _ _ k (by simp; omega)).trans (Below.heap_alloc _ _ k hk)
  have hb1 : Below w.heap.size w W1 := by rw [← hW1]; exact (hb0.alloc hb0.size _).alloc (by have := hb0.size; simp; omega) _
  have hs1 : W1.heap.size = W0.heap.size + 2 := by rw [← hW1]; simp
  have hL : W1.heap[W0.heap.size + 1]? = some (.loop R) := by rw [← hW1]; have := World.alloc_heap_new (W0.alloc (.deferred (some []))) (.loop R); rwa [World.size_alloc] at this
  have hK : W1.heap[W0.heap.size]? = some (.deferred (some [])) := by rw [← hW1]; exact (Below.heap_alloc _ _ _ (by simp)).trans (World.alloc_heap_new W0 _)
  refine ⟨W0.heap.size + 1, [{ target := .collected W0.heap.size, args := #[] }], W1, { target := .fn (.func g) lb, args := #[.func (.yield (W0.heap.size + 1)) #[] #[]] }, W1, g,
    #[.func (.yield (W0.heap.size + 1)) #[] #[]] ++ lb, W1, ?_, ?_, ?_, ?_, fun _ => by decide, ?_⟩
  · rw [← hW1, hR]; exact run_enterLoop_outer _ _ _ _ _
  · simp [resolve, go_sem]
  · intro f' hf'; trivial
  · simp [invoke, go_sem, eg]
  · refine (hseq (W0.heap.size + 1) W1 hb1).mono ?_
    rintro e W2 ⟨⟨v0, rfl⟩, h2⟩
    have hv2 : W2.heap[w.heap.size]? = some (.cells #[.slice none 0 0] 365 (0, 0)) := (h2.block _ (by omega)).trans ((hold _ (by omega)).trans hv0)
    have hL2 := (h2.block (W0.heap.size + 1) (by omega)).trans hL
    have hK2 := (h2.block W0.heap.size (by omega)).trans hK
    have hend := run_endLoop (P := Tryz.prog) hL2 (by rw [hR]; simp)
    obtain ⟨W3, hW3⟩ : ∃ W3, W2.putObj (W0.heap.size + 1) (.loop { R with state := .exhausted }) = W3 := ⟨_, rfl⟩
    rw [hW3] at hend
    have hv3 : W3.heap[w.heap.size]? = some (.cells #[.slice none 0 0] 365 (0, 0)) := by rw [← hW3]; exact (World.putObj_heap_other (by omega)).trans hv2
    have hK3 : W3.heap[W0.heap.size]? = some (.deferred (some [])) := by rw [← hW3]; exact (World.putObj_heap_other (by omega)).trans hK2
    have hb3 : Below w.heap.size w W3 := (hb1.trans (h2.mono (by omega))).grown (by rw [← hW3]; exact putGrown _ _ _) (by have := h2.size; omega) (fun k e => by cases e; omega)
    have hp : R.pending = none := by rw [hR]
    rw [hp] at hend
    obtain ⟨hc3, hf3⟩ := heapBox hv3
    clear hW3
    refine ⟨none, W3, hend, ?_⟩
    gi_wp2
    rw [← hs0]
    refine ⟨by simp, .inl ⟨_, _, rfl, run_takeDeferred hK3, ?_⟩⟩
    exact ⟨_, results_tmp rfl _ _ _, rfl, hb3.grown (putGrown _ _ _) hb3.size (fun k e => by cases e; omega)⟩
set_option maxRecDepth 100000 in
set_option maxHeartbeats 2000000 in
theorem append0_407 (g : Nat) (lb : Array Value) (eg : ∀ args w, (callFunc g args).run Tryz.prog w = .ok (.enter g args) w) (w : World) (hseq : Gives0 Tryz.prog g lb w) :
    Calls Tryz.prog 407 #[.slice none 0 0, .func (.func g) #[] lb] w fun e w' => e = .returned (.slice none 0 0) ∧ Below w.heap.size w w' := by
  refine (callsIn_wide (n := 6)).1 ?_
  refine callsIn_of_wp_marks Tryz.func407 rfl trivial ?_ rfl
  simp only [Tryz.ntmps407, List.size_toArray, List.length_cons, List.length_nil, Nat.reduceAdd, Nat.reduceSub, Array.replicate_succ, Array.replicate_zero, List.push_toArray, List.append_toArray, List.nil_append, List.cons_append]
  gi_wp2
  generalize Code.region 2 _ _ = asg
  generalize Code.block 1 _ = bd
  refine wpIn_rangeFunc ?_
  intro fn hfn
  obtain ⟨W0, hW0⟩ : ∃ W0, w.alloc (.cells #[.slice none 0 0] 32) = W0 := ⟨_, rfl⟩
  have hs0 : W0.heap.size = w.heap.size + 1 := by rw [← hW0]; simp
  have hv0 : W0.heap[w.heap.size]? = some (.cells #[.slice none 0 0] 32 (0, 0)) := by rw [← hW0]; exact World.alloc_heap_new w _
  have hb0 : Below w.heap.size w W0 := by rw [← hW0]; exact (Below.refl _ w).alloc (Nat.le_refl _) _
  rw [hW0]
  obtain ⟨R, hR⟩ : ∃ R : Loop, R = { state := .ready, pending := none, fn := fn, tmps := #[.slice none 0 0, .func (.func g) #[] lb, .pointer (some ⟨w.heap.size, 0, none⟩), undef, .slice none 0 0, undef, .func (.func g) #[] lb, undef, undef, undef, undef, undef, undef], params := #[7], assign := asg, body := bd, defers := W0.heap.size } := ⟨_, rfl⟩
  obtain ⟨W1, hW1⟩ : ∃ W1, (W0.alloc (.deferred (some []))).alloc (.loop R) = W1 := ⟨_, rfl⟩
  have hold : ∀ k, k < W0.heap.size → W1.heap[k]? = W0.heap[k]? := fun k hk => by
    rw [← hW1]; exact (Below.heap_alloc _ _ k (by simp; omega)).trans (Below.heap_alloc _ _ k hk)
  have hb1 : Below w.heap.size w W1 := by rw [← hW1]; exact (hb0.alloc hb0.size _).alloc (by have := hb0.size; simp; omega) _
  have hs1 : W1.heap.size = W0.heap.size + 2 := by rw [← hW1]; simp
  have hL : W1.heap[W0.heap.size + 1]? = some (.loop R) := by rw [← hW1]; have := World.alloc_heap_new (W0.alloc (.deferred (some []))) (.loop R); rwa [World.size_alloc] at this
  have hK : W1.heap[W0.heap.size]? = some (.deferred (some [])) := by rw [← hW1]; exact (Below.heap_alloc _ _ _ (by simp)).trans (World.alloc_heap_new W0 _)
  refine ⟨W0.heap.size + 1, [{ target := .collected W0.heap.size, args := #[] }], W1, { target := .fn (.func g) lb, args := #[.func (.yield (W0.heap.size + 1)) #[] #[]] }, W1, g,
    #[.func (.yield (W0.heap.size + 1)) #[] #[]] ++ lb, W1, ?_, ?_, ?_, ?_, fun _ => by decide, ?_⟩
  · rw [← hW1, hR]; exact run_enterLoop_outer _ _ _ _ _
  · simp [resolve, go_sem]
  · intro f' hf'; trivial
  · simp [invoke, go_sem, eg]
  · refine (hseq (W0.heap.size + 1) W1 hb1).mono ?_
    rintro e W2 ⟨⟨v0, rfl⟩, h2⟩
    have hv2 : W2.heap[w.heap.size]? = some (.cells #[.slice none 0 0] 32 (0, 0)) := (h2.block _ (by omega)).trans ((hold _ (by omega)).trans hv0)
    have hL2 := (h2.block (W0.heap.size + 1) (by omega)).trans hL
    have hK2 := (h2.block W0.heap.size (by omega)).trans hK
    have hend := run_endLoop (P := Tryz.prog) hL2 (by rw [hR]; simp)
    obtain ⟨W3, hW3⟩ : ∃ W3, W2.putObj (W0.heap.size + 1) (.loop { R with state := .exhausted }) = W3 := ⟨_, rfl⟩
    rw [hW3] at hend
    have hv3 : W3.heap[w.heap.size]? = some (.cells #[.slice none 0 0] 32 (0, 0)) := by rw [← hW3]; exact (World.putObj_heap_other (by omega)).trans hv2
    have hK3 : W3.heap[W0.heap.size]? = some (.deferred (some [])) := by rw [← hW3]; exact (World.putObj_heap_other (by omega)).trans hK2
    have hb3 : Below w.heap.size w W3 := (hb1.trans (h2.mono (by omega))).grown (by rw [← hW3]; exact putGrown _ _ _) (by have := h2.size; omega) (fun k e => by cases e; omega)
    have hp : R.pending = none := by rw [hR]
    rw [hp] at hend
    obtain ⟨hc3, hf3⟩ := heapBox hv3
    clear hW3
    refine ⟨none, W3, hend, ?_⟩
    gi_wp2
    rw [← hs0]
    refine ⟨by simp, .inl ⟨_, _, rfl, run_takeDeferred hK3, ?_⟩⟩
    exact ⟨_, results_tmp rfl _ _ _, rfl, hb3.grown (putGrown _ _ _) hb3.size (fun k e => by cases e; omega)⟩
set_option maxRecDepth 100000 in
set_option maxHeartbeats 1000000 in
theorem nil_379 (w : World) (Bm : Nat) (hBm : Bm < w.heap.size) (hm : w.cell? ⟨Bm, 0, none⟩ = some (.map none)) : Gives0 Tryz.prog 379 #[.pointer (some ⟨Bm, 0, none⟩)] w := fun l W hW => by
  have hm : W.cell? ⟨Bm, 0, none⟩ = some (.map none) := (hW.cell (p := ⟨Bm, 0, none⟩) hBm).trans hm
  refine callsIn_of_wp Tryz.func379 rfl trivial ?_ rfl
  simp only [Tryz.ntmps379, List.size_toArray, List.length_cons, List.length_nil, Nat.reduceAdd, Nat.reduceSub, Array.replicate_succ, Array.replicate_zero, List.push_toArray, List.append_toArray, List.nil_append, List.cons_append]
  have hrg := run_range_nilMap (P := Tryz.prog) W 87 28 156 Tryz.underlying87
  have hnx : ∀ ty, (Instr.next (.pointer (some ⟨W.heap.size, 0, none⟩)) false ty).run Tryz.prog (W.alloc (.mapIter none 0 #[] 0)) = _ := fun ty => run_next_nilMap _ ty 0 0 #[]
  gi_wp2
  refine wpIn_loop_rounds 1 ?_
  rw [roundsIn_succ]
  gi_wp2
  go_end0
  exact ⟨⟨_, rfl⟩, (Below.refl _ W).alloc (Nat.le_refl _) _⟩
set_option maxRecDepth 100000 in
set_option maxHeartbeats 1000000 in
theorem nil_349 (w : World) (Bm : Nat) (hBm : Bm < w.heap.size) (hm : w.cell? ⟨Bm, 0, none⟩ = some (.map none)) : Gives0 Tryz.prog 349 #[.pointer (some ⟨Bm, 0, none⟩)] w := fun l W hW => by
  have hm : W.cell? ⟨Bm, 0, none⟩ = some (.map none) := (hW.cell (p := ⟨Bm, 0, none⟩) hBm).trans hm
  refine callsIn_of_wp Tryz.func349 rfl trivial ?_ rfl
  simp only [Tryz.ntmps349, List.size_toArray, List.length_cons, List.length_nil, Nat.reduceAdd, Nat.reduceSub, Array.replicate_succ, Array.replicate_zero, List.push_toArray, List.append_toArray, List.nil_append, List.cons_append]
  have hrg := run_range_nilMap (P := Tryz.prog) W 355 353 213 Tryz.underlying355
  have hnx : ∀ ty, (Instr.next (.pointer (some ⟨W.heap.size, 0, none⟩)) false ty).run Tryz.prog (W.alloc (.mapIter none 0 #[] 0)) = _ := fun ty => run_next_nilMap _ ty 0 0 #[]
  gi_wp2
  refine wpIn_loop_rounds 1 ?_
  rw [roundsIn_succ]
  gi_wp2
  go_end0
  exact ⟨⟨_, rfl⟩, (Below.refl _ W).alloc (Nat.le_refl _) _⟩
set_option maxRecDepth 100000 in
set_option maxHeartbeats 1000000 in
theorem empty_373 (w : World) (Bm b clock : Nat) (hBm : Bm < w.heap.size) (hm : w.cell? ⟨Bm, 0, none⟩ = some (.map (some b))) (hb : b < w.heap.size) (hmap : w.heap[b]? = some (.map #[] clock)) : Gives0 Tryz.prog 373 #[.pointer (some ⟨Bm, 0, none⟩)] w := fun l W hW => by
  have hm : W.cell? ⟨Bm, 0, none⟩ = some (.map (some b)) := (hW.cell (p := ⟨Bm, 0, none⟩) hBm).trans hm
  refine callsIn_of_wp Tryz.func373 rfl trivial ?_ rfl
  simp only [Tryz.ntmps373, List.size_toArray, List.length_cons, List.length_nil, Nat.reduceAdd, Nat.reduceSub, Array.replicate_succ, Array.replicate_zero, List.push_toArray, List.append_toArray, List.nil_append, List.cons_append]
  have hmap : W.heap[b]? = some (.map #[] clock) := (hW.block b hb).trans hmap
  have hget : (getObj b).run Tryz.prog W = .ok (.map #[] clock) W := by simp [getObj, Sem.run, hmap]
  have hrg : (Instr.range 270 (.map (some b))).run Tryz.prog W = .ok (.pointer (some ⟨W.heap.size, 0, none⟩)) (W.alloc (.mapIter (some b) clock #[] clock)) := by
    simp only [Instr.range, Sem.run_bind, run_underlying Tryz.underlying270, Sem.run_pure, Result.andThen_ok, run_newObj, hget]
    rfl
  have hnx : ∀ ty, (Instr.next (.pointer (some ⟨W.heap.size, 0, none⟩)) false ty).run Tryz.prog (W.alloc (.mapIter (some b) clock #[] clock)) = .ok (.tuple #[.bool false]) (W.alloc (.mapIter (some b) clock #[] clock)) := fun ty => by
    have h1 : (getObj W.heap.size).run Tryz.prog (W.alloc (.mapIter (some b) clock #[] clock)) = .ok (.mapIter (some b) clock #[] clock) (W.alloc (.mapIter (some b) clock #[] clock)) := by
      have := World.alloc_heap_new W (.mapIter (some b) clock #[] clock)
      unfold getObj
      simp only [Sem.run, this]
    have h2 : (getObj b).run Tryz.prog (W.alloc (.mapIter (some b) clock #[] clock)) = .ok (.map #[] clock) (W.alloc (.mapIter (some b) clock #[] clock)) := by
      have := (Below.heap_alloc W (.mapIter (some b) clock #[] clock) b (Array.getElem?_eq_some_iff.1 hmap).1).trans hmap
      simp [getObj, Sem.run, this]
    have hch : (choose (.mapNext 1)).run Tryz.prog (W.alloc (.mapIter (some b) clock #[] clock)) = .ok 0 (W.alloc (.mapIter (some b) clock #[] clock)) := by simp [choose, Sem.run, Question.forced, Question.cut]
    simp [Instr.next, Sem.run_bind, h1, h2, hch, Result.andThen, Question.forced]
  gi_wp2
  refine wpIn_loop_rounds 1 ?_
  rw [roundsIn_succ]
  gi_wp2
  go_end0
  exact ⟨⟨_, rfl⟩, (Below.refl _ W).alloc (Nat.le_refl _) _⟩
end Go.Proofs.YtdimeaooekhkhaaGreat.AX
