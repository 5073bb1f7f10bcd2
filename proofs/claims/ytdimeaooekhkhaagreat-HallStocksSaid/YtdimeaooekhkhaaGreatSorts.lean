/- Proved: slices.Sorted at what maps.Keys gives, for each map type whose keys are strings: the keys, sorted, in a new slice; nothing that lay there has turned. The maps are not conditioned. -/
import Derived.Test.YtdimeaooekhkhaaGreatAxSort
import Derived.Test.YtdimeaooekhkhaaGreatLaid
set_option linter.unusedVariables false
namespace Go.Proofs.YtdimeaooekhkhaaGreat.AX
open Go.RowKit Go.Maps Go.Sort Go.Shelf Go.Proofs

theorem sorts292 (m : Nat) : AnyZ.SortsIn Tryz.prog Tryz.sorted292_ren Fence.wide m :=
  ⟨fun blk off cap ss W hH hblk hsz => callsIn_wide.2 (AnyM.slices_Sort_string Tryz.sort361 blk off cap ss W hH hblk hsz),
   fun p cap W => callsIn_wide.2 (AnyM.slices_Sort_string_none Tryz.sort361 p cap W)⟩
set_option maxHeartbeats 1000000 in
theorem sorts_362 : SortsKeys Tryz.prog 292 9 362 := by
  refine SortsKeys.mk ?_ ?_
  · intro w Bm b nn D0 R hBm hm hown hsz
    have hseq : SeqGives Fence.wide 2 Tryz.prog 362 #[.pointer (some ⟨Bm, 0, none⟩)] encStr (fun ss => ss.Perm (strKeys D0)) (Maps.size D0) w :=
      AnyZ.keys_gives (ρ := Tryz.keys293_ren) { Tryz.keys293 with } Fence.wide _ trivial rfl (by omega) Bm b nn D0 w hBm hm hown
    exact callsIn_wide.1 (AnyZ.sorted_in Tryz.sorted292 Fence.wide 5 trivial trivial trivial trivial rfl (by omega) (sorts292 _) (enters_of Tryz.func361 (by kernel_rfl) rfl) 362 #[.pointer (some ⟨Bm, 0, none⟩)] trivial (enters_of Tryz.func362 (by kernel_rfl) rfl) _ _ (by unfold maxLen; omega) (by omega) _ hseq)
  · intro w Bm hBm hm
    have hseq : SeqGives Fence.wide 2 Tryz.prog 362 #[.pointer (some ⟨Bm, 0, none⟩)] encStr (fun ss : List (List UInt8) => ss = []) 0 w :=
      AnyZ.keys_gives_nil (ρ := Tryz.keys293_ren) { Tryz.keys293 with } Fence.wide _ trivial rfl Bm w hBm hm
    refine (callsIn_wide.1 (AnyZ.sorted_in Tryz.sorted292 Fence.wide 5 trivial trivial trivial trivial rfl (by omega) (sorts292 _) (enters_of Tryz.func361 (by kernel_rfl) rfl) 362 #[.pointer (some ⟨Bm, 0, none⟩)] trivial (enters_of Tryz.func362 (by kernel_rfl) rfl) _ 0 (Nat.zero_le _) (by omega) _ hseq)).mono fun e w' he => ?_
    obtain ⟨v, ss, rfl, hs, _, hn, hb⟩ := he
    exact ⟨by rw [hn.2 hs], hb⟩

set_option maxHeartbeats 1000000 in
theorem sorts_377 : SortsKeys Tryz.prog 292 9 377 := by
  refine SortsKeys.mk ?_ ?_
  · intro w Bm b nn D0 R hBm hm hown hsz
    have hseq : SeqGives Fence.wide 2 Tryz.prog 377 #[.pointer (some ⟨Bm, 0, none⟩)] encStr (fun ss => ss.Perm (strKeys D0)) (Maps.size D0) w :=
      AnyZ.keys_gives (ρ := Tryz.keys321_ren) { Tryz.keys321 with } Fence.wide _ trivial rfl (by omega) Bm b nn D0 w hBm hm hown
    exact callsIn_wide.1 (AnyZ.sorted_in Tryz.sorted292 Fence.wide 5 trivial trivial trivial trivial rfl (by omega) (sorts292 _) (enters_of Tryz.func361 (by kernel_rfl) rfl) 377 #[.pointer (some ⟨Bm, 0, none⟩)] trivial (enters_of Tryz.func377 (by kernel_rfl) rfl) _ _ (by unfold maxLen; omega) (by omega) _ hseq)
  · intro w Bm hBm hm
    have hseq : SeqGives Fence.wide 2 Tryz.prog 377 #[.pointer (some ⟨Bm, 0, none⟩)] encStr (fun ss : List (List UInt8) => ss = []) 0 w :=
      AnyZ.keys_gives_nil (ρ := Tryz.keys321_ren) { Tryz.keys321 with } Fence.wide _ trivial rfl Bm w hBm hm
    refine (callsIn_wide.1 (AnyZ.sorted_in Tryz.sorted292 Fence.wide 5 trivial trivial trivial trivial rfl (by omega) (sorts292 _) (enters_of Tryz.func361 (by kernel_rfl) rfl) 377 #[.pointer (some ⟨Bm, 0, none⟩)] trivial (enters_of Tryz.func377 (by kernel_rfl) rfl) _ 0 (Nat.zero_le _) (by omega) _ hseq)).mono fun e w' he => ?_
    obtain ⟨v, ss, rfl, hs, _, hn, hb⟩ := he
    exact ⟨by rw [hn.2 hs], hb⟩

set_option maxHeartbeats 1000000 in
theorem sorts_387 : SortsKeys Tryz.prog 292 9 387 := by
  refine SortsKeys.mk ?_ ?_
  · intro w Bm b nn D0 R hBm hm hown hsz
    have hseq : SeqGives Fence.wide 2 Tryz.prog 387 #[.pointer (some ⟨Bm, 0, none⟩)] encStr (fun ss => ss.Perm (strKeys D0)) (Maps.size D0) w :=
      AnyZ.keys_gives (ρ := Tryz.keys346_ren) { Tryz.keys346 with } Fence.wide _ trivial rfl (by omega) Bm b nn D0 w hBm hm hown
    exact callsIn_wide.1 (AnyZ.sorted_in Tryz.sorted292 Fence.wide 5 trivial trivial trivial trivial rfl (by omega) (sorts292 _) (enters_of Tryz.func361 (by kernel_rfl) rfl) 387 #[.pointer (some ⟨Bm, 0, none⟩)] trivial (enters_of Tryz.func387 (by kernel_rfl) rfl) _ _ (by unfold maxLen; omega) (by omega) _ hseq)
  · intro w Bm hBm hm
    have hseq : SeqGives Fence.wide 2 Tryz.prog 387 #[.pointer (some ⟨Bm, 0, none⟩)] encStr (fun ss : List (List UInt8) => ss = []) 0 w :=
      AnyZ.keys_gives_nil (ρ := Tryz.keys346_ren) { Tryz.keys346 with } Fence.wide _ trivial rfl Bm w hBm hm
    refine (callsIn_wide.1 (AnyZ.sorted_in Tryz.sorted292 Fence.wide 5 trivial trivial trivial trivial rfl (by omega) (sorts292 _) (enters_of Tryz.func361 (by kernel_rfl) rfl) 387 #[.pointer (some ⟨Bm, 0, none⟩)] trivial (enters_of Tryz.func387 (by kernel_rfl) rfl) _ 0 (Nat.zero_le _) (by omega) _ hseq)).mono fun e w' he => ?_
    obtain ⟨v, ss, rfl, hs, _, hn, hb⟩ := he
    exact ⟨by rw [hn.2 hs], hb⟩

set_option maxHeartbeats 1000000 in
theorem sorts_408 : SortsKeys Tryz.prog 292 9 408 := by
  refine SortsKeys.mk ?_ ?_
  · intro w Bm b nn D0 R hBm hm hown hsz
    have hseq : SeqGives Fence.wide 2 Tryz.prog 408 #[.pointer (some ⟨Bm, 0, none⟩)] encStr (fun ss => ss.Perm (strKeys D0)) (Maps.size D0) w :=
      AnyZ.keys_gives (ρ := Tryz.keys374_ren) { Tryz.keys374 with } Fence.wide _ trivial rfl (by omega) Bm b nn D0 w hBm hm hown
    exact callsIn_wide.1 (AnyZ.sorted_in Tryz.sorted292 Fence.wide 5 trivial trivial trivial trivial rfl (by omega) (sorts292 _) (enters_of Tryz.func361 (by kernel_rfl) rfl) 408 #[.pointer (some ⟨Bm, 0, none⟩)] trivial (enters_of Tryz.func408 (by kernel_rfl) rfl) _ _ (by unfold maxLen; omega) (by omega) _ hseq)
  · intro w Bm hBm hm
    have hseq : SeqGives Fence.wide 2 Tryz.prog 408 #[.pointer (some ⟨Bm, 0, none⟩)] encStr (fun ss : List (List UInt8) => ss = []) 0 w :=
      AnyZ.keys_gives_nil (ρ := Tryz.keys374_ren) { Tryz.keys374 with } Fence.wide _ trivial rfl Bm w hBm hm
    refine (callsIn_wide.1 (AnyZ.sorted_in Tryz.sorted292 Fence.wide 5 trivial trivial trivial trivial rfl (by omega) (sorts292 _) (enters_of Tryz.func361 (by kernel_rfl) rfl) 408 #[.pointer (some ⟨Bm, 0, none⟩)] trivial (enters_of Tryz.func408 (by kernel_rfl) rfl) _ 0 (Nat.zero_le _) (by omega) _ hseq)).mono fun e w' he => ?_
    obtain ⟨v, ss, rfl, hs, _, hn, hb⟩ := he
    exact ⟨by rw [hn.2 hs], hb⟩

set_option maxHeartbeats 1000000 in
theorem sorts_409 : SortsKeys Tryz.prog 292 9 409 := by
  refine SortsKeys.mk ?_ ?_
  · intro w Bm b nn D0 R hBm hm hown hsz
    have hseq : SeqGives Fence.wide 2 Tryz.prog 409 #[.pointer (some ⟨Bm, 0, none⟩)] encStr (fun ss => ss.Perm (strKeys D0)) (Maps.size D0) w :=
      AnyZ.keys_gives (ρ := Tryz.keys376_ren) { Tryz.keys376 with } Fence.wide _ trivial rfl (by omega) Bm b nn D0 w hBm hm hown
    exact callsIn_wide.1 (AnyZ.sorted_in Tryz.sorted292 Fence.wide 5 trivial trivial trivial trivial rfl (by omega) (sorts292 _) (enters_of Tryz.func361 (by kernel_rfl) rfl) 409 #[.pointer (some ⟨Bm, 0, none⟩)] trivial (enters_of Tryz.func409 (by kernel_rfl) rfl) _ _ (by unfold maxLen; omega) (by omega) _ hseq)
  · intro w Bm hBm hm
    have hseq : SeqGives Fence.wide 2 Tryz.prog 409 #[.pointer (some ⟨Bm, 0, none⟩)] encStr (fun ss : List (List UInt8) => ss = []) 0 w :=
      AnyZ.keys_gives_nil (ρ := Tryz.keys376_ren) { Tryz.keys376 with } Fence.wide _ trivial rfl Bm w hBm hm
    refine (callsIn_wide.1 (AnyZ.sorted_in Tryz.sorted292 Fence.wide 5 trivial trivial trivial trivial rfl (by omega) (sorts292 _) (enters_of Tryz.func361 (by kernel_rfl) rfl) 409 #[.pointer (some ⟨Bm, 0, none⟩)] trivial (enters_of Tryz.func409 (by kernel_rfl) rfl) _ 0 (Nat.zero_le _) (by omega) _ hseq)).mono fun e w' he => ?_
    obtain ⟨v, ss, rfl, hs, _, hn, hb⟩ := he
    exact ⟨by rw [hn.2 hs], hb⟩

end Go.Proofs.YtdimeaooekhkhaaGreat.AX
