/- Proved: the keys of a map, sorted: what the runner says of them. No function of the program is walked here. -/
import Derived.Test.YtdimeaooekhkhaaGreatAxExt
import Derived.Sort.KeysCollected
import Derived.Laws.AppendOwn
set_option linter.unusedVariables false
set_option linter.unusedSimpArgs false
namespace Go.Proofs.YtdimeaooekhkhaaGreat.AX
open Go.RowKit Go.Maps Go.WideElems Go.ChangeShapes Go.WideShapes Go.MapKept Go.ChangeMaps
open Go.Proofs (encStr)

/-- what a function of the library does that sorts the keys which g gives -/
structure SortsKeys (P : Program) (f K g : Nat) : Prop where
  keys : ∀ (w : World) (Bm b nn : Nat) (D0 : DataW Unit) (R : Value → Option (DataW Unit × List MemPlace)), Bm < w.heap.size → w.cell? ⟨Bm, 0, none⟩ = some (.map (some b)) → w.ownsMap P K R b nn D0 → Maps.size D0 ≤ 1000000 →
    Calls P f #[.func (.func g) #[] #[.pointer (some ⟨Bm, 0, none⟩)]] w fun e w' => ∃ (v : Value) (ss : List (List UInt8)), e = .returned v ∧ ss.Perm (strKeys D0) ∧ w'.ownsRow w.heap.size K 1 v ss.length ((ss.mergeSort leB).map encStr) ∧
      (v = .slice none 0 0 ↔ ss = []) ∧ Below w.heap.size w w'
  none_ : ∀ (w : World) (Bm : Nat), Bm < w.heap.size → w.cell? ⟨Bm, 0, none⟩ = some (.map none) → Calls P f #[.func (.func g) #[] #[.pointer (some ⟨Bm, 0, none⟩)]] w fun e w' => e = .returned (.slice none 0 0) ∧ Below w.heap.size w w'

section
variable {P : Program} {E : Env} {B : Nat} {ρ : Ren} {S S' : St} {w w' : World} {f : Nat}
abbrev byts (l : List Nat) : List UInt8 := l.map UInt8.ofNat
theorem byte_lt {a b : Nat} (ha : a < 256) (hb : b < 256) (h : a < b) : UInt8.ofNat a < UInt8.ofNat b := by
  rw [UInt8.lt_iff_toNat_lt]
  simp
  omega
theorem llt_byts : ∀ {a b : List Nat}, (∀ n ∈ a, n < 256) → (∀ n ∈ b, n < 256) → llt a b = true → byts a < byts b
  | [], [], _, _, h => by cases h
  | [], _ :: _, _, _, _ => by simp [byts]
  | _ :: _, [], _, _, h => by cases h
  | x :: a, y :: b, ha, hb, h => by
    have h : cnd (Nat.blt x y) true (cnd (Nat.beq x y) (llt a b) false) = true := h
    show UInt8.ofNat x :: byts a < UInt8.ofNat y :: byts b
    rw [List.cons_lt_cons_iff]
    cases h1 : Nat.blt x y with
    | true => exact .inl (byte_lt (ha x (by simp)) (hb y (by simp)) (by simpa [Nat.blt_eq] using h1))
    | false =>
      rw [h1] at h
      obtain ⟨h2, h3⟩ := cnd_and (a := Nat.beq x y) (b := llt a b) h
      have := Nat.eq_of_beq_eq_true h2
      subst this
      exact .inr ⟨rfl, llt_byts (fun n hn => ha n (by simp [hn])) (fun n hn => hb n (by simp [hn])) h3⟩
theorem rising_byts : ∀ {l : List (List Nat)}, (∀ x ∈ l, ∀ n ∈ x, n < 256) → rising l = true → (l.map byts).Pairwise (· < ·)
  | [], _, _ => List.Pairwise.nil
  | x :: l, hb, h => by
    obtain ⟨h1, h2⟩ := cnd_and (a := headLt x l) (b := rising l) h
    have ih := rising_byts (fun y hy => hb y (by simp [hy])) h2
    refine List.Pairwise.cons ?_ ih
    cases l with
    | nil => intro y hy; cases hy
    | cons y l =>
      have hxy : byts x < byts y := llt_byts (hb x (by simp)) (hb y (by simp)) h1
      intro z hz
      rcases List.mem_cons.1 hz with rfl | hz
      · exact hxy
      · exact List.lt_trans hxy ((List.pairwise_cons.1 ih).1 z hz)
theorem insS_perm (x : List Nat) : ∀ l : List (List Nat), (insS x l).Perm (x :: l)
  | [] => .refl _
  | y :: l => by
    show (cnd (llt x y) (x :: y :: l) (y :: insS x l)).Perm _
    cases llt x y with
    | true => exact .refl _
    | false => exact ((insS_perm x l).cons y).trans (.swap _ _ _)
theorem sortS_perm : ∀ l : List (List Nat), (sortS l).Perm l
  | [] => .refl _
  | x :: l => (insS_perm x (sortS l)).trans ((sortS_perm l).cons x)
theorem sort_byts {ks : List (List Nat)} (hb : ∀ x ∈ ks, ∀ n ∈ x, n < 256) (hr : rising (sortS ks) = true) {ss : List (List UInt8)} (hp : ss.Perm (ks.map byts)) : ss.mergeSort leB = (sortS ks).map byts := by
  have h1 := rising_byts (fun x hx => hb x ((sortS_perm ks).mem_iff.1 hx)) hr
  rw [mergeSort_of_perm (hp.trans ((sortS_perm ks).map byts).symm)]
  exact List.mergeSort_of_pairwise (h1.imp fun h => by simpa [leB] using List.le_of_lt h)

theorem strKeysA_spec : ∀ {es : List Ent} {ms : List MapEntry} {ks : List (List Nat)}, strKeysA es = some ks → EntsR E ρ es ms → ms.map (·.key) = ks.map (fun l => Value.string (mkS l)) ∧ (∀ l ∈ ks, l.length < 1000000 ∧ ∀ n ∈ l, n < 256)
  | [], [], ks, h, _ => by cases h; exact ⟨rfl, by simp⟩
  | [], _ :: _, ks, h, hr => hr.elim
  | _ :: _, [], ks, h, hr => hr.elim
  | e :: es, m :: ms, ks, h, ⟨h1, h2, h3, h4⟩ => by
    have h : (match e.key with | .str l => cnd (Nat.blt (llen l) 1000000) (oif (strKeysA es) none fun r => some (l :: r)) none | _ => none) = some ks := h
    split at h
    · rename_i l hl
      rw [hl] at h1
      obtain ⟨hk, hb⟩ := h1
      cases hn : Nat.blt (llen l) 1000000 with
      | false => rw [hn] at h; cases h
      | true =>
        rw [hn, cnd_true] at h
        cases hs : strKeysA es with
        | none => rw [hs] at h; cases h
        | some r =>
          rw [hs] at h
          cases h
          obtain ⟨q1, q2⟩ := strKeysA_spec hs h4
          have hn : llen l < 1000000 := by simpa [Nat.blt_eq] using hn
          rw [llen_eq'] at hn
          refine ⟨by simp only [List.map_cons, q1, hk], fun x hx => ?_⟩
          rcases List.mem_cons.1 hx with rfl | hx
          · exact ⟨hn, hb⟩
          · exact q2 x hx
    · cases h
theorem stampsA_spec {clock : Nat} : ∀ {es : List Ent} {ms : List MapEntry}, stampsA clock es = true → EntsR E ρ es ms → (∀ x ∈ ms, x.born < clock) ∧ (ms.map (·.born)).Pairwise (· < ·)
  | [], [], _, _ => ⟨by simp, List.Pairwise.nil⟩
  | [], _ :: _, h, hr => hr.elim
  | _ :: _, [], h, hr => hr.elim
  | e :: es, m :: ms, h, ⟨h1, h2, h3, h4⟩ => by
    obtain ⟨q1, q2⟩ := cnd_and (a := Nat.blt e.born clock) (b := cnd (bornLt e.born es) (stampsA clock es) false) h
    obtain ⟨q3, q4⟩ := cnd_and (a := bornLt e.born es) (b := stampsA clock es) q2
    obtain ⟨r1, r2⟩ := stampsA_spec q4 h4
    have hlt : e.born < clock := by simpa [Nat.blt_eq] using q1
    refine ⟨fun x hx => ?_, List.Pairwise.cons ?_ r2⟩
    · rcases List.mem_cons.1 hx with rfl | hx
      · rw [h3]; exact hlt
      · exact r1 x hx
    · cases es with
      | nil =>
        cases ms with
        | nil => intro y hy; cases hy
        | cons _ _ => exact h4.elim
      | cons f es =>
        cases ms with
        | nil => exact h4.elim
        | cons m' ms =>
        obtain ⟨_, _, h5, _⟩ := h4
        have q3 : Nat.blt e.born f.born = true := q3
        have q3 : e.born < f.born := by simpa [Nat.blt_eq] using q3
        intro y hy
        show m.born < y
        rcases List.mem_cons.1 hy with rfl | hy
        · show m.born < m'.born; omega
        · have : m'.born < y := (List.pairwise_cons.1 r2).1 y hy
          omega
theorem EntsR.len : ∀ {es : List Ent} {ms : List MapEntry}, EntsR E ρ es ms → es.length = ms.length
  | [], [], _ => rfl
  | [], _ :: _, h => h.elim
  | _ :: _, [], h => h.elim
  | _ :: _, _ :: _, ⟨_, _, _, h⟩ => by simp [h.len]
theorem strsA_map : ∀ l : List (List Nat), strsA l = l.map AV.str
  | [] => rfl
  | x :: l => by show AV.str x :: strsA l = _; rw [strsA_map l]; rfl
theorem strs_VRs : ∀ {l : List (List Nat)}, (∀ x ∈ l, ∀ n ∈ x, n < 256) → VRs E ρ (l.map AV.str) ((l.map byts).map encStr)
  | [], _ => trivial
  | x :: l, h => ⟨⟨rfl, h x (by simp)⟩, strs_VRs fun y hy => h y (by simp [hy])⟩
abbrev R0 : Value → Option (DataW Unit × List MemPlace) := fun _ => some (.nil, [])
theorem rd_str {K : Nat} (hK : P.underlying K = some .string) {x : MapEntry} {l : List Nat} (hx : x.key = .string (mkS l)) (hl : l.length < 1000000) : WideElems.rd P K R0 x = some (.string (byts l), .nil) := by
  have hs : (mkS l).size ≤ maxLen := by
    have : (mkS l).size = l.length := by simp [mkS, ByteArray.size]
    rw [this]; unfold maxLen; omega
  simp only [WideElems.rd, keyOf, hK, hx, mapKey, hs, if_true, Option.bind_some, R0, Option.map_some]
  simp [mkS]

/-- a function of the library's that sorts a map's keys -/
theorem ext_sorted {K : Nat} {gs : List Nat} (hK : P.underlying K = some .string) (hf : ∀ xs w, (callFunc f xs).run P w = .ok (.enter f xs) w) (hg : ∀ g ∈ gs, SortsKeys P f K g) : ExtOK P E f (xSorted gs) := by
  intro call _ args S v S' h B ρ w xs hx hS
  unfold xSorted at h
  split at h
  · rename_i g b
    obtain ⟨h1, h2⟩ := cnd_eq_ok h
    obtain ⟨cs, h3, h4⟩ := oif_eq_ok h2
    have hmem : ∀ gs : List Nat, memN g gs = true → g ∈ gs := fun gs => by
      induction gs with
      | nil => intro h; cases h
      | cons x l ih =>
        intro h
        have h : cnd (Nat.beq x g) true (memN g l) = true := h
        cases hb : Nat.beq x g with
        | true => rw [Nat.eq_of_beq_eq_true hb]; simp
        | false => rw [hb] at h; exact List.mem_cons_of_mem _ (ih h)
    have hG := hg g (hmem gs h1)
    obtain ⟨x, m, hxs, hv, hm⟩ := VRs.cons_iff.1 hx
    rw [VRs.nil_iff.1 hm] at hxs
    obtain ⟨as, bs, rfl, ha, hb⟩ := hv
    have ha : as = #[] := Array.toList_inj.1 (by simpa using VRs.nil_iff.1 ha)
    obtain ⟨p, m2, hbs, ⟨gb, c, hgb, rfl⟩, hm2⟩ := VRs.cons_iff.1 hb
    rw [VRs.nil_iff.1 hm2] at hbs
    have hbs : bs = #[.pointer (some ⟨gb, 0, none⟩)] := Array.toList_inj.1 (by simpa using hbs)
    subst ha; subst hbs
    have hxs : xs = #[.func (.func g) #[] #[.pointer (some ⟨gb, 0, none⟩)]] := Array.toList_inj.1 (by simpa using hxs)
    subst hxs
    obtain ⟨e, op, hblk⟩ := rowOf_spec h3
    have hplace := hS.place hblk hgb
    refine .inr ⟨hf _ _, ?_⟩
    unfold sortedIn at h4
    split at h4
    · obtain ⟨rfl, rfl⟩ := rok_ok h4
      obtain ⟨y, hy, hvy⟩ := hS.cell (i := 0) (v := .nilm) hblk hgb rfl
      have hvy : y = .map none := hvy
      subst hvy
      refine (hG.none_ w gb hplace hy).mono fun e w' he => ?_
      obtain ⟨rfl, hbl⟩ := he
      obtain ⟨q1, q2⟩ := hS.below hbl
      exact ⟨ρ, rfl, q1, q2⟩
    · rename_i r
      obtain ⟨y, hy, hvy⟩ := hS.cell (i := 0) (v := .mapv r) hblk hgb rfl
      obtain ⟨gm, cm, hgm, rfl⟩ := hvy
      obtain ⟨p, r1, r2⟩ := oif_eq_ok h4
      obtain ⟨ks, r3, r4⟩ := oif_eq_ok r2
      obtain ⟨r5, r6⟩ := cnd_eq_ok r4
      obtain ⟨r7, r8⟩ := cnd_eq_ok r6
      rw [seqL_eq] at r8
      obtain ⟨r9, r10⟩ := cnd_eq_ok r8
      obtain ⟨_, o, ho, ms, rfl, hms⟩ := hS.blk r _ gm cm (mapOf_some r1) hgm
      obtain ⟨k1, k2⟩ := strKeysA_spec r3 hms
      obtain ⟨s1, s2⟩ := stampsA_spec r5 hms
      have hfit : llen ks < 1000000 := by simpa [fits, Nat.blt_eq] using r7
      rw [llen_eq'] at hfit
      have hmlen : ms.size = ks.length := by
        have := congrArg List.length k1
        simpa using this
      have hbyt : ∀ x ∈ ks, ∀ n ∈ x, n < 256 := fun x hx => (k2 x hx).2
      have hrd : ∀ x ∈ ms.toList, ∃ l ∈ ks, x.key = .string (mkS l) := fun x hx => by
        have : x.key ∈ ms.toList.map (·.key) := List.mem_map_of_mem hx
        rw [k1] at this
        obtain ⟨l, hl, e⟩ := List.mem_map.1 this
        exact ⟨l, hl, e.symm⟩
      have hnd : (ks.map byts).Nodup := by
        have h1 := rising_byts (fun x hx => hbyt x ((sortS_perm ks).mem_iff.1 hx)) r9
        refine ((sortS_perm ks).map byts).nodup_iff.1 (h1.imp fun h e => ?_)
        rw [e] at h
        exact absurd h (List.lt_irrefl _)
      have hFit : WideElems.Fit P K R0 ms p.2 := by
        refine ⟨by unfold maxLen; omega, ⟨s1, s2.imp fun h e => by omega, ?_⟩, fun x hx => ?_⟩
        · rw [k1]
          have : (ks.map fun l => Value.string (mkS l)) = (ks.map byts).map encStr := by rw [List.map_map]; rfl
          rw [this]
          exact List.Pairwise.map _ (fun a b h e => h (encStr_inj e)) hnd
        · obtain ⟨l, hl, e⟩ := hrd x hx
          exact ⟨_, rd_str hK e (k2 l hl).1⟩
      have hown : w.ownsMap P K R0 gm ms.size (.map ((ms.toList.map (WideElems.rg P K R0)).foldr DataW.insert [])) := ⟨ms, p.2, ho, hFit, Nat.le_refl _, rfl⟩
      have hkeys : (strKeys (.map ((ms.toList.map (WideElems.rg P K R0)).foldr DataW.insert []))).Perm (ks.map byts) := by
        have h1 : (strKeys (.map ((ms.toList.map (WideElems.rg P K R0)).foldr DataW.insert []))).Perm ((ms.toList.map (WideElems.rg P K R0)).map fun p => strOf p.1) := (sorted_perm _).map _
        have h2 : ∀ (ml : List MapEntry) (kl : List (List Nat)), ml.map (·.key) = kl.map (fun l => Value.string (mkS l)) → (∀ l ∈ kl, l.length < 1000000) → (ml.map (WideElems.rg P K R0)).map (fun p => strOf p.1) = kl.map byts := by
          intro ml
          induction ml with
          | nil => intro kl e _; cases kl with | nil => rfl | cons _ _ => cases e
          | cons x ml ih =>
            intro kl e hl
            cases kl with
            | nil => cases e
            | cons l kl =>
              simp only [List.map_cons, List.cons.injEq] at e
              have hr := rd_str (P := P) hK e.1 (hl l (by simp))
              simp only [List.map_cons]
              rw [ih kl e.2 fun y hy => hl y (by simp [hy])]
              congr 1
              simp only [WideElems.rg, hr, Option.getD_some, strOf]
        rw [h2 ms.toList ks k1 fun l hl => (k2 l hl).1] at h1
        exact h1
      refine (hG.keys w gb gm ms.size _ R0 hplace hy hown ?_).mono fun e w' he => ?_
      · show List.length _ ≤ _
        have h1 := (sorted_perm (ms.toList.map (WideElems.rg P K R0))).length_eq
        rw [h1]
        simp
        omega
      · obtain ⟨v', ss, rfl, hp, hrow, hnil, hbl⟩ := he
        have hss := hp.trans hkeys
        have hsort := sort_byts hbyt r9 hss
        have hlen : ss.length = ks.length := by simpa using hss.length_eq
        have hsl : (sortS ks).length = ks.length := (sortS_perm ks).length_eq
        rw [hsort] at hrow
        unfold sortedOf at r10
        split at r10
        · rename_i he
          obtain ⟨rfl, rfl⟩ := rok_ok r10
          have : ss = [] := List.eq_nil_of_length_eq_zero (by rw [hlen, ← hsl, he]; rfl)
          have hv := hnil.2 this
          subst hv
          obtain ⟨q1, q2⟩ := hS.below hbl
          exact ⟨ρ, rfl, q1, q2⟩
        · rename_i x l he
          rw [seqL_eq, seqN_eq, ← he, strsA_map] at r10
          obtain ⟨rfl, rfl⟩ := rok_ok r10
          rcases hrow.2 with ⟨_, h0⟩ | ⟨g', cap, cur, rfl, hge, hcell, hcap, hmax, hsize, htake⟩
          · rw [hlen, ← hsl, he] at h0; simp at h0
          · have hO : OR E (ρ.add S.next (g', cap)) (.row ((sortS ks).map AV.str) 0 (some 1)) cap (.cells cur K (0, 0)) := by
              refine ⟨cur, K, (0, 0), rfl, fun j _ hh => by have := hh.2; simp at this, ?_, by simp; omega, ⟨hsize, hmax⟩⟩
              have : ((sortS ks).map AV.str).length = ss.length * 1 := by simp [hlen, hsl]
              rw [this, htake]
              exact strs_VRs fun x hx => hbyt x ((sortS_perm ks).mem_iff.1 hx)
            obtain ⟨q1, q2⟩ := hS.adopt hbl hge hcell hO
            refine ⟨_, ⟨g', cap, Ren.add_same _ _ _, ?_⟩, q1, q2⟩
            rw [llen_eq', ← hlen]
            rfl
    · cases h4
  · cases h
end
end Go.Proofs.YtdimeaooekhkhaaGreat.AX
